/- PolicyNone: for every rule, address, length and attributes the law answers true. -/
import Derived.Test.YtcijgahloogooaaD4
import Derived.Test.YtcijgahloogooaaSa
import Derived.Test.YtcijgahloogooaaFrZc
import Derived.Test.YtcijgahloogooaaRows
namespace Go.Proofs.Ytcijgahloogooaa
open Go.ChangeShapes Go.WideShapes Go.ChangeAt Go.RowKit Go.Proofs.Sg

set_option maxRecDepth 100000 in
theorem law4 (args : List V) (h : All2 (ShV Try.prog 12) Try.f4.params.toList args) : evF env 40 true 4 args = some (V.bool true, []) := by
  rw [Try.params4] at h
  obtain ⟨a0, q0, rfl, h0, r0⟩ := all2_cons h
  obtain ⟨a1, q1, rfl, h1, r1⟩ := all2_cons r0
  obtain ⟨a2, q2, rfl, h2, r2⟩ := all2_cons r1
  obtain ⟨a3, q3, rfl, h3, r3⟩ := all2_cons r2
  obtain rfl := all2_nil r3
  obtain ⟨r, rfl⟩ := arg_rule h0
  obtain ⟨n, rfl⟩ := arg_u32 h1
  obtain ⟨k, rfl, _⟩ := arg_int h2
  obtain ⟨t, rfl, _⟩ := arg_attrs h3
  exact law4_data r n k t

theorem own4 : ownKnob Try.prog.godebug = none := by kernel_rfl
theorem laid4 : laidOutB Try.prog = true := by kernel_rfl
theorem under4 : Try.prog.underlying 4 = some .bool := by kernel_rfl
theorem par4 : (Try.f4.params.toList.all fun t => Try.prog.readableRec t && decide (t < Try.prog.types.size) && okT Try.prog 12 t) = true := by kernel_rfl

set_option maxRecDepth 100000 in
theorem law4_lifted (os : Os) (started : os.Started) (H : Type) (enc : TypeId × Value → H) :
    ReturnsInHanded {} Try.checked os 4 .any (Rows.policyNoneSpec.pre6 enc Try.prog Try.f4 Rows.policyNoneRow.domain false) (Rows.policyNoneSpec.post enc Try.prog Try.f4 false true false false) := by
  refine returnsInHanded_of_change (C := Try.checked) own4 started (by kernel_rfl) Try.func4
    (ChangeSpec.witness6 (enc := enc) (C := Try.checked) false ⟨#[], #[.agg #[.int .u32 0, .int .i64 0, .int .i64 0, .int .i64 0, .int .u32 0, .bool false, .bool false, .int .u32 0, .bool false, .int .u32 0, .int .i64 0, .int .u32 0], .int .u32 0, .int .i64 0, .agg #[.int .i64 0, .slice none 0 0, .int .u32 0, .bool false, .int .u32 0, .bool false, .int .u32 0, .bool false, .slice none 0 0]], []⟩ 8 (by kernel_rfl) (by kernel_rfl) (by kernel_rfl) (by kernel_rfl)) ?_
  intro W base args ds gs before hval0 hW hcnd _
  have hval : ∀ (j : Nat) t v, Try.f4.params.toList[j]? = some t → args[j]? = some v → Value.okWide Try.prog W .any base t v := fun j t v hj hv => hval0 j t v (by simpa using hj) hv
  have hW' := hW
  obtain ⟨p, q, hA, hV, hbe, hfz, hnd⟩ := hW
  have hpar := par4
  rw [List.all_eq_true] at hpar
  have hpar' : ∀ t ∈ Try.f4.params.toList, (Try.prog.readableRec t = true ∧ t < Try.prog.types.size) ∧ okT Try.prog 12 t = true := fun t ht => by simpa using hpar t ht
  obtain ⟨hg, _⟩ := trodVars_none hV
  subst hg
  refine (law_calls (run_ok 40 (fun _ => true)) hA hval (fun t ht => (hpar' t ht).2) law4).mono fun e W' ⟨he, hb⟩ => ?_
  subst he
  refine ⟨_, rfl, post_below laid4 rfl rfl under4 (fun t ht => (hpar' t ht).1) hW' ?_ hb⟩
  match ds, trodAll_len hA with
  | [d1, d2, d3, d4], _ => exact ⟨rfl, rfl, rfl⟩

theorem policyNone_holds : Rows.PolicyNoneSaid :=
  OpenClaim.holds_of_wide 4 Try.f4 rfl rfl rfl rfl rfl rfl rfl ⟨rfl, rfl, rfl, rfl, rfl⟩ rfl rfl rfl rfl rfl (by kernel_rfl) Try.func4 (by kernel_rfl)
    (of_decide_eq_true (by kernel_rfl)) (by unfold Func.isWrapper; first | (rw [if_pos (by decide +kernel)]; kernel_rfl) | (rw [if_neg (by decide +kernel)]; exact ⟨rfl, rfl⟩))
    (fun os started H enc _ => law4_lifted os started H enc)
#print axioms policyNone_holds
end Go.Proofs.Ytcijgahloogooaa
