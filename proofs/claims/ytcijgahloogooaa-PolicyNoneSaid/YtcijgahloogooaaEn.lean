/- The environment of the seat's functions. -/
import Derived.Test.YtcijgahloogooaaTt
import Derived.Test.YtcijgahloogooaaSx
namespace Go.Proofs.Ytcijgahloogooaa
open Go Go.RowKit Go.Proofs.Sg
theorem fact {f : Nat} {fn : Func} {sf : SFn} (h1 : Try.prog.funcs[f]? = some fn) (h2 : (fn.name == "runtime.NumGoroutine") = false) (h3 : slimF (ttOf Try.prog) fn = some sf) : FnFact Try.prog (ttOf Try.prog) f sf := ⟨fn, h1, h2, h3⟩
def tab : List (Nat × SFn) := [(4, y4), (14, y14), (15, y15), (16, y16), (17, y17), (18, y18), (19, y19), (20, y20), (21, y21), (24, y24), (25, y25), (26, y26), (33, y33), (43, y43), (44, y44), (45, y45), (46, y46), (47, y47), (48, y48), (49, y49), (50, y50), (53, y53), (71, y71), (74, y74), (78, y78), (79, y79), (80, y80), (81, y81), (82, y82), (83, y83), (84, y84), (101, y101), (111, y111), (120, y120), (121, y121), (122, y122), (136, y136), (137, y137), (141, y141), (152, y152), (161, y161), (167, y167)]
/-- Called in the caller's store. -/
def shrs : List Nat := [122, 152, 161, 80]
/-- Callers that write what a callee gave. -/
def wets : List (Nat × Nat) := [(74, 79), (86, 50), (81, 121), (121, 151), (46, 81)]
def wet (f g : Nat) : Bool := wets.any fun p => p.1 == f && p.2 == g
def env : Env := { fn := tabFn tab, prim := fun f => if f = 151 then some pAppendSeq else none, shr := fun f => shrs.contains f, L := 1125899906842624, frz := fun f g => !wet f g }
theorem env_ok : EnvOk Try.prog (ttOf Try.prog) env where
  fn := tabFn_ok (by
    simp only [tab, List.forall_mem_cons]
    exact ⟨fact y4_at y4_nm y4_ok, fact y14_at y14_nm y14_ok, fact y15_at y15_nm y15_ok, fact y16_at y16_nm y16_ok, fact y17_at y17_nm y17_ok, fact y18_at y18_nm y18_ok, fact y19_at y19_nm y19_ok, fact y20_at y20_nm y20_ok, fact y21_at y21_nm y21_ok, fact y24_at y24_nm y24_ok, fact y25_at y25_nm y25_ok, fact y26_at y26_nm y26_ok, fact y33_at y33_nm y33_ok, fact y43_at y43_nm y43_ok, fact y44_at y44_nm y44_ok, fact y45_at y45_nm y45_ok, fact y46_at y46_nm y46_ok, fact y47_at y47_nm y47_ok, fact y48_at y48_nm y48_ok, fact y49_at y49_nm y49_ok, fact y50_at y50_nm y50_ok, fact y53_at y53_nm y53_ok, fact y71_at y71_nm y71_ok, fact y74_at y74_nm y74_ok, fact y78_at y78_nm y78_ok, fact y79_at y79_nm y79_ok, fact y80_at y80_nm y80_ok, fact y81_at y81_nm y81_ok, fact y82_at y82_nm y82_ok, fact y83_at y83_nm y83_ok, fact y84_at y84_nm y84_ok, fact y101_at y101_nm y101_ok, fact y111_at y111_nm y111_ok, fact y120_at y120_nm y120_ok, fact y121_at y121_nm y121_ok, fact y122_at y122_nm y122_ok, fact y136_at y136_nm y136_ok, fact y137_at y137_nm y137_ok, fact y141_at y141_nm y141_ok, fact y152_at y152_nm y152_ok, fact y161_at y161_nm y161_ok, fact y167_at y167_nm y167_ok, by simp⟩)
  prim := fun f p h => by
    simp only [env] at h
    split at h
    · rename_i e
      subst e
      obtain rfl : pAppendSeq = p := by simpa using h
      exact iso151
    · cases h
theorem env_shr {f : Nat} : env.shr f = shrs.contains f := rfl
theorem env_frz {f g : Nat} : env.frz f g = !wet f g := rfl
attribute [go_sem] env_shr env_frz shrs wets wet
theorem run_ok (m : Nat) (z : Nat → Bool) : KOk Try.prog { iso := fun g ts => evF env m (z g) g ts, shr := env.shr, run := evR env m } := ev_ok (ttOf_ok _) env_ok (by kernel_rfl) m z
theorem fn4 : env.fn 4 = some y4 := rfl
theorem fn14 : env.fn 14 = some y14 := rfl
theorem fn15 : env.fn 15 = some y15 := rfl
theorem fn16 : env.fn 16 = some y16 := rfl
theorem fn17 : env.fn 17 = some y17 := rfl
theorem fn18 : env.fn 18 = some y18 := rfl
theorem fn19 : env.fn 19 = some y19 := rfl
theorem fn20 : env.fn 20 = some y20 := rfl
theorem fn21 : env.fn 21 = some y21 := rfl
theorem fn24 : env.fn 24 = some y24 := rfl
theorem fn25 : env.fn 25 = some y25 := rfl
theorem fn26 : env.fn 26 = some y26 := rfl
theorem fn33 : env.fn 33 = some y33 := rfl
theorem fn43 : env.fn 43 = some y43 := rfl
theorem fn44 : env.fn 44 = some y44 := rfl
theorem fn45 : env.fn 45 = some y45 := rfl
theorem fn46 : env.fn 46 = some y46 := rfl
theorem fn47 : env.fn 47 = some y47 := rfl
theorem fn48 : env.fn 48 = some y48 := rfl
theorem fn49 : env.fn 49 = some y49 := rfl
theorem fn50 : env.fn 50 = some y50 := rfl
theorem fn53 : env.fn 53 = some y53 := rfl
theorem fn71 : env.fn 71 = some y71 := rfl
theorem fn74 : env.fn 74 = some y74 := rfl
theorem fn78 : env.fn 78 = some y78 := rfl
theorem fn79 : env.fn 79 = some y79 := rfl
theorem fn80 : env.fn 80 = some y80 := rfl
theorem fn81 : env.fn 81 = some y81 := rfl
theorem fn82 : env.fn 82 = some y82 := rfl
theorem fn83 : env.fn 83 = some y83 := rfl
theorem fn84 : env.fn 84 = some y84 := rfl
theorem fn101 : env.fn 101 = some y101 := rfl
theorem fn111 : env.fn 111 = some y111 := rfl
theorem fn120 : env.fn 120 = some y120 := rfl
theorem fn121 : env.fn 121 = some y121 := rfl
theorem fn122 : env.fn 122 = some y122 := rfl
theorem fn136 : env.fn 136 = some y136 := rfl
theorem fn137 : env.fn 137 = some y137 := rfl
theorem fn141 : env.fn 141 = some y141 := rfl
theorem fn152 : env.fn 152 = some y152 := rfl
theorem fn161 : env.fn 161 = some y161 := rfl
theorem fn167 : env.fn 167 = some y167 := rfl
end Go.Proofs.Ytcijgahloogooaa
