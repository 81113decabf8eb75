/- Arguments' shapes as data. -/
import Derived.Test.YtcijgahloogooaaC2
import Derived.Test.YtcijgahloogooaaFrZc
namespace Go.Proofs.Ytcijgahloogooaa
open Go Go.Proofs.Sg
set_option maxRecDepth 100000
set_option linter.unusedSimpArgs false
set_option linter.unusedVariables false

theorem all2_cons {α γ : Type} {R : α → γ → Prop} {a : α} {ls : List α} {xs : List γ} (h : All2 R (a :: ls) xs) : ∃ x xs', xs = x :: xs' ∧ R a x ∧ All2 R ls xs' := by
  match xs, h with
  | x :: xs', h => exact ⟨x, xs', rfl, h.1, h.2⟩
theorem all2_nil {α γ : Type} {R : α → γ → Prop} {xs : List γ} (h : All2 R [] xs) : xs = [] := by
  match xs, h with
  | [], _ => rfl
theorem sh_bool {k : Nat} {ts : List T} (h : Sh Try.prog (k + 1) 4 ts) : ∃ b, ts = [.v (.bool b)] := by
  unfold Sh at h; rw [Try.underlying4] at h; exact h
theorem sh_int {k : Nat} {ts : List T} (h : Sh Try.prog (k + 1) 3 ts) : ∃ n : Int, ts = [.v (.int .i64 n)] ∧ -9223372036854775808 ≤ n ∧ n ≤ 9223372036854775807 := by
  unfold Sh at h; rw [Try.underlying3] at h
  obtain ⟨n, h1, h2⟩ := h
  simp only [Lit.wf, Bool.and_eq_true, decide_eq_true_eq] at h2
  exact ⟨n, h1, h2.1, h2.2⟩
theorem sh_u32 {k : Nat} {ts : List T} (h : Sh Try.prog (k + 1) 23 ts) : ∃ x : BitVec 32, ts = [.v (U32 x)] := by
  unfold Sh at h; rw [Try.underlying23] at h
  obtain ⟨n, h1, h2⟩ := h
  simp only [Lit.wf, Bool.and_eq_true, decide_eq_true_eq] at h2
  have h3 : 0 ≤ n := h2.1
  have h4 : n ≤ 4294967295 := h2.2
  refine ⟨BitVec.ofInt 32 n, ?_⟩
  rw [h1, U32, BitVec.toNat_ofInt]
  congr 3
  omega
theorem all_choose {α : Type} {f : α → List T} : ∀ {xs : List (List T)}, (∀ x ∈ xs, ∃ y, x = f y) → ∃ ys : List α, xs.flatten = ys.flatMap f ∧ ys.length = xs.length
  | [], _ => ⟨[], rfl, rfl⟩
  | x :: xs, h => by
    obtain ⟨y, rfl⟩ := h x List.mem_cons_self
    obtain ⟨ys, h1, h2⟩ := all_choose (fun x hx => h x (List.mem_cons_of_mem _ hx))
    exact ⟨y :: ys, by rw [List.flatten_cons, List.flatMap_cons, h1], by simp [h2]⟩
theorem sh_slice {α : Type} {f : α → List T} {k : Nat} {t e : TypeId} {ts : List T} (hu : Try.prog.underlying t = some (.slice e)) (he : ∀ x, Sh Try.prog k e x → ∃ y, x = f y) (h : Sh Try.prog (k + 1) t ts) :
    ∃ s : Sl α, ts = [s.t f] ∧ s.l.length ≤ maxLen := by
  unfold Sh at h; rw [hu] at h
  rcases h with rfl | ⟨xs, rfl, h1, h2⟩
  · exact ⟨.nil, rfl, Nat.zero_le _⟩
  · obtain ⟨ys, h3, h4⟩ := all_choose (f := f) (fun x hx => he x (h2 x hx).2)
    exact ⟨.mk ys, by rw [Sl.t, h3, h4], by show ys.length ≤ _; rw [h4]; exact h1⟩
theorem sh_u32s {k : Nat} {ts : List T} (h : Sh Try.prog (k + 2) 25 ts) : ∃ s : Sl (BitVec 32), ts = [s.t u32c] ∧ s.l.length ≤ maxLen :=
  sh_slice Try.underlying25 (fun x hx => sh_u32 hx) h
theorem sh_seg {k : Nat} {ts : List T} (h : Sh Try.prog (k + 3) 49 ts) : ∃ s : Seg, ts = segC s := by
  unfold Sh at h; rw [Try.underlying49] at h
  obtain ⟨xs, rfl, h1⟩ := h
  simp only [List.toList_toArray] at h1
  obtain ⟨x0, xs0, rfl, h0', r0⟩ := all2_cons h1
  obtain ⟨x1, xs1, rfl, h1', r1⟩ := all2_cons r0
  obtain rfl := all2_nil r1
  obtain ⟨n, rfl, _⟩ := sh_int h0'.2
  obtain ⟨s, rfl, _⟩ := sh_u32s h1'.2
  exact ⟨⟨n, s⟩, rfl⟩
theorem sh_segs {k : Nat} {ts : List T} (h : Sh Try.prog (k + 4) 24 ts) : ∃ s : Sl Seg, ts = [s.t segC] ∧ s.l.length ≤ maxLen :=
  sh_slice Try.underlying24 (fun x hx => sh_seg hx) h
theorem sh_pfx {k : Nat} {ts : List T} (h : Sh Try.prog (k + 2) 30 ts) : ∃ (a : BitVec 32) (n : Int), ts = [.v (U32 a), .v (.int .i64 n)] := by
  unfold Sh at h; rw [Try.underlying30] at h
  obtain ⟨xs, rfl, h1⟩ := h
  simp only [List.toList_toArray] at h1
  obtain ⟨x0, xs0, rfl, h0', r0⟩ := all2_cons h1
  obtain ⟨x1, xs1, rfl, h1', r1⟩ := all2_cons r0
  obtain rfl := all2_nil r1
  obtain ⟨a, rfl⟩ := sh_u32 h0'.2
  obtain ⟨n, rfl, _⟩ := sh_int h1'.2
  exact ⟨a, n, rfl⟩
theorem sh_rule {k : Nat} {ts : List T} (h : Sh Try.prog (k + 3) 37 ts) : ∃ r : Rule, ts = ruleC r := by
  unfold Sh at h; rw [Try.underlying37] at h
  obtain ⟨xs, rfl, h1⟩ := h
  simp only [List.toList_toArray] at h1
  obtain ⟨x0, xs0, rfl, h0', r0⟩ := all2_cons h1
  obtain ⟨x1, xs1, rfl, h1', r1⟩ := all2_cons r0
  obtain ⟨x2, xs2, rfl, h2', r2⟩ := all2_cons r1
  obtain ⟨x3, xs3, rfl, h3', r3⟩ := all2_cons r2
  obtain ⟨x4, xs4, rfl, h4', r4⟩ := all2_cons r3
  obtain ⟨x5, xs5, rfl, h5', r5⟩ := all2_cons r4
  obtain ⟨x6, xs6, rfl, h6', r6⟩ := all2_cons r5
  obtain ⟨x7, xs7, rfl, h7', r7⟩ := all2_cons r6
  obtain ⟨x8, xs8, rfl, h8', r8⟩ := all2_cons r7
  obtain ⟨x9, xs9, rfl, h9', r9⟩ := all2_cons r8
  obtain ⟨x10, xs10, rfl, h10', r10⟩ := all2_cons r9
  obtain rfl := all2_nil r10
  obtain ⟨pa, pl, rfl⟩ := sh_pfx h0'.2
  obtain ⟨lo, rfl, _⟩ := sh_int h1'.2
  obtain ⟨hi, rfl, _⟩ := sh_int h2'.2
  obtain ⟨cm, rfl⟩ := sh_u32 h3'.2
  obtain ⟨rj, rfl⟩ := sh_bool h4'.2
  obtain ⟨sp, rfl⟩ := sh_bool h5'.2
  obtain ⟨pr, rfl⟩ := sh_u32 h6'.2
  obtain ⟨sm, rfl⟩ := sh_bool h7'.2
  obtain ⟨md, rfl⟩ := sh_u32 h8'.2
  obtain ⟨pre, rfl, _⟩ := sh_int h9'.2
  obtain ⟨ac, rfl⟩ := sh_u32 h10'.2
  exact ⟨⟨pa, pl, lo, hi, cm, rj, sp, pr, sm, md, pre, ac⟩, rfl⟩
theorem sh_rules {k : Nat} {ts : List T} (hu : Try.prog.underlying 22 = some (.slice 37)) (h : Sh Try.prog (k + 4) 22 ts) : ∃ s : Sl Rule, ts = [s.t ruleC] ∧ s.l.length ≤ maxLen :=
  sh_slice hu (fun x hx => sh_rule hx) h
def attrsC (a : Attrs) : List T := [.v (.int .i64 a.origin), a.path.t segC, .v (U32 a.next), .v (.bool a.hasMed), .v (U32 a.med), .v (.bool a.hasPref), .v (U32 a.pref), .v (.bool a.atomic), a.comms.t u32c]
theorem sh_attrs {k : Nat} {ts : List T} (h : Sh Try.prog (k + 5) 27 ts) : ∃ a : Attrs, ts = attrsC a ∧ a.path.l.length ≤ maxLen ∧ a.comms.l.length ≤ maxLen := by
  unfold Sh at h; rw [Try.underlying27] at h
  obtain ⟨xs, rfl, h1⟩ := h
  simp only [List.toList_toArray] at h1
  obtain ⟨x0, xs0, rfl, h0', r0⟩ := all2_cons h1
  obtain ⟨x1, xs1, rfl, h1', r1⟩ := all2_cons r0
  obtain ⟨x2, xs2, rfl, h2', r2⟩ := all2_cons r1
  obtain ⟨x3, xs3, rfl, h3', r3⟩ := all2_cons r2
  obtain ⟨x4, xs4, rfl, h4', r4⟩ := all2_cons r3
  obtain ⟨x5, xs5, rfl, h5', r5⟩ := all2_cons r4
  obtain ⟨x6, xs6, rfl, h6', r6⟩ := all2_cons r5
  obtain ⟨x7, xs7, rfl, h7', r7⟩ := all2_cons r6
  obtain ⟨x8, xs8, rfl, h8', r8⟩ := all2_cons r7
  obtain rfl := all2_nil r8
  obtain ⟨og, rfl, _⟩ := sh_int h0'.2
  obtain ⟨p, rfl, hp⟩ := sh_segs h1'.2
  obtain ⟨nx, rfl⟩ := sh_u32 h2'.2
  obtain ⟨hm, rfl⟩ := sh_bool h3'.2
  obtain ⟨md, rfl⟩ := sh_u32 h4'.2
  obtain ⟨hf, rfl⟩ := sh_bool h5'.2
  obtain ⟨pr, rfl⟩ := sh_u32 h6'.2
  obtain ⟨atm, rfl⟩ := sh_bool h7'.2
  obtain ⟨s, rfl, hs⟩ := sh_u32s h8'.2
  exact ⟨⟨og, p, nx, hm, md, hf, pr, atm, s⟩, rfl, hp, hs⟩

theorem shv_c {k : Nat} {t : TypeId} {a : V} (hg : Sg.isAgg Try.prog t = false) (h : ShV Try.prog k t a) : ∃ x, Sh Try.prog k t [x] ∧ a = .c (.t x) := by
  obtain ⟨ts, h1, ⟨h2, _⟩ | ⟨_, x, rfl, rfl⟩⟩ := h
  · rw [hg] at h2; cases h2
  · exact ⟨x, h1, rfl⟩
theorem shv_agg {k : Nat} {t : TypeId} {a : V} (hg : Sg.isAgg Try.prog t = true) (h : ShV Try.prog k t a) : ∃ ts, Sh Try.prog k t ts ∧ a = .agg (ts.map .t) := by
  obtain ⟨ts, h1, ⟨_, h2⟩ | ⟨h2, _⟩⟩ := h
  · exact ⟨ts, h1, h2⟩
  · rw [hg] at h2; cases h2
theorem arg_u32 {a : V} (h : ShV Try.prog 12 23 a) : ∃ x, a = V.p (U32 x) := by
  obtain ⟨x, h1, rfl⟩ := shv_c (by kernel_rfl) h
  obtain ⟨y, h2⟩ := sh_u32 h1
  exact ⟨y, by rw [(List.cons.inj h2).1]⟩
theorem arg_int {a : V} (h : ShV Try.prog 12 3 a) : ∃ n : Int, a = .int .i64 n ∧ -9223372036854775808 ≤ n ∧ n ≤ 9223372036854775807 := by
  obtain ⟨x, h1, rfl⟩ := shv_c (by kernel_rfl) h
  obtain ⟨y, h2, h3⟩ := sh_int h1
  exact ⟨y, by rw [(List.cons.inj h2).1], h3⟩
theorem arg_rule {a : V} (h : ShV Try.prog 12 37 a) : ∃ r, a = ruleV r := by
  obtain ⟨ts, h1, rfl⟩ := shv_agg (by kernel_rfl) h
  obtain ⟨r, rfl⟩ := sh_rule h1
  exact ⟨r, rfl⟩
theorem arg_attrs {a : V} (h : ShV Try.prog 12 27 a) : ∃ t, a = attrsV t ∧ t.path.l.length ≤ maxLen ∧ t.comms.l.length ≤ maxLen := by
  obtain ⟨ts, h1, rfl⟩ := shv_agg (by kernel_rfl) h
  obtain ⟨r, rfl, h2⟩ := sh_attrs h1
  exact ⟨r, rfl, h2⟩
end Go.Proofs.Ytcijgahloogooaa
