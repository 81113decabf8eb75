/- The frame, part Zc: from a law's row to the evaluator. -/
import Derived.Test.YtcijgahloogooaaFrY
import Derived.ProofKit
import Derived.Carry
import Derived.ChangeOld
namespace Go.Proofs.Sg
open Go.RowKit Go.ChangeShapes Go.WideShapes Go.ChangeAt

def isAgg (P : Program) (t : TypeId) : Bool := match P.underlying t with
  | some (.struct _) => true
  | _ => false
/-- An argument as trees of its type's shape. -/
def ShV (P : Program) (k : Nat) (t : TypeId) (a : V) : Prop :=
  ∃ ts, Sh P k t ts ∧ ((isAgg P t = true ∧ a = .agg (ts.map .t)) ∨ (isAgg P t = false ∧ ∃ x, ts = [x] ∧ a = .c (.t x)))

section
variable {H : Type} {enc : TypeId × Value → H} {P : Program} {W W' : World}

theorem one_tree {v : Value} {ts : List T} (h : All2 (RT (snap W)) [v] ts) : ∃ x, ts = [x] ∧ RT (snap W) v x := by
  match ts, h with
  | [x], h => exact ⟨x, rfl, h.1⟩

theorem arg_tree {k base : Nat} {spare : Nat → Bool} {held : Bool} {t : TypeId} {v : Value} {d : DataW H} {p : List MemPlace} (hval : Value.okWide P W .any base t v) (h : DataW.Trod enc P W 0 spare held t v d p) (hok : okT P k t = true) :
    ∃ a, RV (snap W) nob v a ∧ ShV P k t a := by
  obtain ⟨fuel, hf⟩ := h
  obtain ⟨ts, h1, h2⟩ := trod_tree k fuel t _ d p hok hf
  match k, hok with
  | k + 1, hok =>
    unfold okT at hok
    cases hu : P.underlying t with
    | none => rw [hu] at hok; cases hok
    | some ds =>
      have one : (∀ cs, v ≠ .agg cs) → isAgg P t = false → ∃ a, RV (snap W) nob v a ∧ ShV P (k + 1) t a := fun hv hg => by
        have hc : v.cells.toList = [v] := by
          cases v <;> first | rfl | exact absurd rfl (hv _)
        rw [hc] at h1
        obtain ⟨x, rfl, hx⟩ := one_tree h1
        exact ⟨.c (.t x), hx, [x], h2, .inr ⟨hg, x, rfl, rfl⟩⟩
      rw [hu] at hok
      cases ds with
      | bool =>
        obtain ⟨b, rfl⟩ := okWide_bool hu hval
        exact one (fun cs h => by cases h) (by unfold isAgg; rw [hu])
      | int q =>
        obtain ⟨b, rfl⟩ := okWide_int hu hval
        exact one (fun cs h => by cases h) (by unfold isAgg; rw [hu])
      | slice e =>
        obtain ⟨a, len, cap, rfl⟩ := okWide_slice hu hval
        exact one (fun cs h => by cases h) (by unfold isAgg; rw [hu])
      | struct fs =>
        obtain ⟨cs, rfl, _⟩ := okWide_struct hu hval
        refine ⟨.agg (ts.map .t), ⟨cs.toList, by simp, RTs_C h1⟩, ts, h2, .inl ⟨by unfold isAgg; rw [hu], rfl⟩⟩
      | _ => cases hok

theorem args_trees {k base : Nat} {spare : Nat → Bool} {held : Bool} : ∀ {tys : List TypeId} {vals : List Value} {ds : List (DataW H)} {ps : List MemPlace}, DataW.TrodAll enc P W 0 spare held tys vals ds ps →
    (∀ (j : Nat) t v, tys[j]? = some t → vals[j]? = some v → Value.okWide P W .any base t v) → (∀ t ∈ tys, okT P k t = true) → ∃ args, All2 (RV (snap W) nob) vals args ∧ All2 (ShV P k) tys args
  | [], [], [], _, _, _, _ => ⟨[], trivial, trivial⟩
  | [], _ :: _, _, _, h, _, _ => by cases ‹List (DataW H)› <;> exact h.elim
  | [], [], _ :: _, _, h, _, _ => h.elim
  | _ :: _, [], _, _, h, _, _ => by cases ‹List (DataW H)› <;> exact h.elim
  | _ :: _, _ :: _, [], _, h, _, _ => h.elim
  | t :: tys, v :: vals, d :: ds, ps, h, hv, hk => by
    obtain ⟨p, q, h1, h2, _⟩ := h
    obtain ⟨a, a1, a2⟩ := arg_tree (hv 0 t v rfl rfl) h1 (hk t List.mem_cons_self)
    obtain ⟨as, b1, b2⟩ := args_trees h2 (fun j t v hj hj' => hv (j + 1) t v (by simpa using hj) (by simpa using hj')) (fun t ht => hk t (List.mem_cons_of_mem _ ht))
    exact ⟨a :: as, ⟨a1, b1⟩, a2, b2⟩

theorem trodAll_stays (hl : laidOutB P = true) (hb : Below W.heap.size W W') {sp : Nat → Bool} : ∀ {tys : List TypeId} {vals : List Value} {ds : List (DataW H)} {ps : List MemPlace}, DataW.TrodAll enc P W 0 (fun _ => true) true tys vals ds ps →
    (∀ t ∈ tys, P.readableRec t = true ∧ t < P.types.size) → (∀ x ∈ ps, x.block < W.heap.size) → (∀ x ∈ ps, sp x.block = true) → DataW.TrodAll enc P W' 0 sp true tys vals ds ps
  | [], [], [], _, h, _, _, _ => h
  | [], _ :: _, _, _, h, _, _, _ => by cases ‹List (DataW H)› <;> exact h.elim
  | [], [], _ :: _, _, h, _, _, _ => h.elim
  | _ :: _, [], _, _, h, _, _, _ => by cases ‹List (DataW H)› <;> exact h.elim
  | _ :: _, _ :: _, [], _, h, _, _, _ => h.elim
  | t :: tys, v :: vals, d :: ds, ps, h, ht, hlt, hs => by
    obtain ⟨p, q, h1, h2, rfl⟩ := h
    refine ⟨p, q, WideElems.Trod_stays hl (ht t List.mem_cons_self).1 (ht t List.mem_cons_self).2 h1 (fun x hx => hb.same (hlt x (List.mem_append_left _ hx))) (fun x hx => hs x (List.mem_append_left _ hx)), ?_, rfl⟩
    exact trodAll_stays hl hb h2 (fun t h => ht t (List.mem_cons_of_mem _ h)) (fun x hx => hlt x (List.mem_append_right _ hx)) (fun x hx => hs x (List.mem_append_right _ hx))

theorem trodAll_len {base : Nat} {spare : Nat → Bool} {held : Bool} : ∀ {tys : List TypeId} {vals : List Value} {ds : List (DataW H)} {ps : List MemPlace}, DataW.TrodAll enc P W base spare held tys vals ds ps → ds.length = tys.length
  | [], [], [], _, _ => rfl
  | [], _ :: _, _, _, h => by cases ‹List (DataW H)› <;> exact h.elim
  | [], [], _ :: _, _, h => h.elim
  | _ :: _, [], _, _, h => by cases ‹List (DataW H)› <;> exact h.elim
  | _ :: _, _ :: _, [], _, h => h.elim
  | _ :: _, _ :: _, _ :: _, _, h => by
    obtain ⟨_, _, _, h2, _⟩ := h
    simp [trodAll_len h2]

/-- What a law's row asks behind the call. -/
theorem post_below {f : Func} {s : ChangeSpec} {tb : TypeId} {ds : List (DataW H)} {before : List MemPlace} {args : Array Value} (hl : laidOutB P = true) (hs : s.vars = []) (hrt : f.resultTypes = #[tb]) (htb : P.underlying tb = some .bool)
    (hpar : ∀ t ∈ f.params.toList, P.readableRec t = true ∧ t < P.types.size) (hW : DataW.Whole enc P f.params.toList s.vars false W args.toList ds [] before)
    (hfn : (s.fn H ds).results = [.lit (.bool true)] ∧ (s.fn H ds).args = ds ∧ (s.fn H ds).vars = []) (hb : Below W.heap.size W W') : s.post enc P f false true false false W args (.bool true) W' := by
  have hlt := hW.lt
  have hW' := hW
  obtain ⟨p, q, h1, h2, rfl, _⟩ := hW
  rw [hs] at h2
  obtain ⟨_, rfl⟩ := trodVars_none h2
  refine ⟨ds, [], p ++ [], [], p, [], hW', ?_, ?_, ?_, hb.frame _, fun h => by cases h⟩
  · rw [List.append_nil, hfn.1, hrt]
    exact trodAll_mk1 ⟨1, by simp [DataW.trod, Value.cells, htb]⟩
  · rw [List.append_nil, hfn.2.1]
    refine trodAll_stays hl hb h1 hpar (fun x hx => hlt x (List.mem_append_left _ hx)) (fun x hx => by simpa using hlt x (List.mem_append_left _ hx))
  · rw [List.append_nil, hfn.2.2, hs]
    exact rfl

/-- A law that the evaluator answers with true. -/
theorem law_calls {kk : K} (hk : KOk P kk) {n : Nat} {k base : Nat} {tys : List TypeId} {vals : Array Value} {ds : List (DataW H)} {ps : List MemPlace} (hA : DataW.TrodAll enc P W 0 (fun _ => true) true tys vals.toList ds ps)
    (hval : ∀ (j : Nat) t v, tys[j]? = some t → vals[j]? = some v → Value.okWide P W .any base t v) (hok : ∀ t ∈ tys, okT P k t = true) (hlaw : ∀ args, All2 (ShV P k) tys args → kk.iso n args = some (V.bool true, [])) :
    Calls P n vals W fun e W' => e = .returned (.bool true) ∧ Below W.heap.size W W' := by
  obtain ⟨args, h1, h2⟩ := args_trees hA (fun j t v hj hj' => hval j t v hj (by simpa using hj')) hok
  have hI := hk.iso n args _ _ (hlaw args h2)
  have hc := hI.2 (snap W) W vals.toList (snap_agree W) h1
  refine Calls.mono (by simpa using hc) fun e w' hR => ?_
  cases e with
  | returned val =>
    obtain ⟨M', β', hI', hv, _⟩ := hR
    exact ⟨by rw [(rv_v hv).1], hI'.below⟩
  | panicked c => exact hR.elim
  | outgrown => exact hR.elim
end
end Go.Proofs.Sg
