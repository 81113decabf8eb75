/- The frame, part U: code. -/
import Derived.Test.YtcijgahloogooaaFrT
import Derived.Scope
namespace Go.Proofs.Sg
open Go.RowKit

theorem cnt_add {L L' : Nat → Bool} {i : Nat} (hi : L i = false) (h1 : L' i = true) (hne : ∀ j, j ≠ i → L' j = L j) : ∀ m, i < m → (List.range m).countP (fun j => !L' j) + 1 = (List.range m).countP (fun j => !L j)
  | 0, h => by omega
  | m + 1, h => by
    rw [List.range_succ, List.countP_append, List.countP_append]
    by_cases e : i = m
    · subst e
      have : (List.range i).countP (fun j => !L' j) = (List.range i).countP (fun j => !L j) := List.countP_congr fun j hj => by
        have := List.mem_range.1 hj
        rw [hne j (by omega)]
      rw [this]
      simp [hi, h1]
    · have := cnt_add hi h1 hne m (by omega)
      have e2 : [m].countP (fun j => !L' j) = [m].countP (fun j => !L j) := by simp [List.countP_cons, hne m (Ne.symm e)]
      omega

theorem cnt_zero {L : Nat → Bool} : ∀ m, (List.range m).countP (fun j => !L j) = 0 → ∀ i, i < m → L i = true := by
  intro m h i hi
  rw [List.countP_eq_zero] at h
  simpa using h i (List.mem_range.2 hi)

section
variable {P : Program} {tt : TT} {B : Fr} {w0 : World} {nt : Nat} {kk : K} {ops : Array Oper} {xs : List (Op1 × List Nat × Bool)} {es : List Ev} {bs : List Nat} {s : S} {M0 : Mem} {β0 : Bet} {Q : Exit → Act → World → Prop}

theorem drw_any (htt : TTok P tt) (hk : KOk P kk) (hlo : B.lo ≤ s.n) (h : Ctx tt nt kk ops xs es bs s) (hend : ∀ L a w, (∀ i, i < ops.size → L i = true) → J B w0 M0 β0 nt ops.size xs es s L a w → Q .normal a w) :
    ∀ (fuel : Nat) (listed : Array Bool) (a : Act) (w : World), listed.size = ops.size → ClosedL ops (fun i => listed.getD i false) → J B w0 M0 β0 nt ops.size xs es s (fun i => listed.getD i false) a w →
      (List.range ops.size).countP (fun i => !listed.getD i false) ≤ fuel → wpAny P .any ops Q fuel listed a w := by
  have hdone : ∀ (listed : Array Bool) (a : Act) (w : World), listed.size = ops.size → J B w0 M0 β0 nt ops.size xs es s (fun i => listed.getD i false) a w → Region.ready .any ops listed = [] → Q .normal a w := by
    intro listed a w hsz hJ hr
    refine hend _ a w ?_ hJ
    intro i
    induction i using Nat.strongRecOn with
    | _ i ih =>
      intro hi
      cases hc : listed.getD i false with
      | true => rfl
      | false =>
        exfalso
        have : i ∈ Region.ready .any ops listed := by
          rw [mem_ready]
          refine ⟨?_, ops[i], Array.getElem?_eq_getElem hi, fun e he hb => ?_⟩
          · rw [Array.getD_eq_getD_getElem?, Array.getElem?_eq_getElem (by omega)] at hc ⊢
            exact hc
          · have hm : e.on ∈ ons ops[i] := List.mem_map.2 ⟨e, List.mem_filter.2 ⟨by simpa using he, hb⟩, rfl⟩
            have := h.lt i ops[i] (Array.getElem?_eq_getElem hi) _ hm
            exact ih _ this (by omega)
        rw [hr] at this
        cases this
  intro fuel
  induction fuel with
  | zero =>
    intro listed a w hsz hL hJ hc
    have hall := cnt_zero (L := fun i => listed.getD i false) ops.size (by omega)
    have hr : Region.ready .any ops listed = [] := by
      cases hx : Region.ready .any ops listed with
      | nil => rfl
      | cons i is =>
        have hm : i ∈ Region.ready .any ops listed := by rw [hx]; exact List.mem_cons_self
        rw [mem_ready] at hm
        obtain ⟨h1, o, ho, _⟩ := hm
        have hi := (Array.getElem?_eq_some_iff.1 ho).1
        have h2 := hall i hi
        rw [Array.getD_eq_getD_getElem?, Array.getElem?_eq_getElem (by omega)] at h1 h2
        simp only [Option.getD_some] at h1 h2
        rw [h1] at h2
        cases h2
    exact ⟨hr, hdone listed a w hsz hJ hr⟩
  | succ fuel ih =>
    intro listed a w hsz hL hJ hc
    refine ⟨hdone listed a w hsz hJ, fun i hi => ?_⟩
    rw [mem_ready] at hi
    obtain ⟨h1, o, ho, h2⟩ := hi
    have him := (Array.getElem?_eq_some_iff.1 ho).1
    have hif : listed.getD i false = false := by
      rw [Array.getD_eq_getD_getElem?, Array.getElem?_eq_getElem (by omega)] at h1 ⊢
      exact h1
    have hons : ∀ e ∈ ons o, listed.getD e false = true := by
      intro e he
      obtain ⟨ed, hed, rfl⟩ := List.mem_map.1 he
      obtain ⟨h3, h4⟩ := List.mem_filter.1 hed
      exact h2 ed (by simpa using h3) h4
    have hset : ∀ j, (listed.setIfInBounds i true).getD j false = (j == i || listed.getD j false) := by
      intro j
      rw [Array.getD_eq_getD_getElem?, Array.getElem?_setIfInBounds]
      by_cases e : i = j
      · subst e
        rw [if_pos rfl]
        simp [show i < listed.size by omega]
      · rw [if_neg e]
        have : (j == i) = false := by simpa using Ne.symm e
        rw [this, Bool.false_or, Array.getD_eq_getD_getElem?]
    have hfun : (fun j => (listed.setIfInBounds i true).getD j false) = fun j => j == i || listed.getD j false := funext hset
    refine drw_step htt hk hlo h hL ho hif hons hJ fun a' w' hJ' => ih (listed.setIfInBounds i true) a' w' (by simpa using hsz) ?_ (by rw [hfun]; exact hJ') ?_
    · rw [hfun]
      intro j oj hoj hj e he
      simp only [Bool.or_eq_true, beq_iff_eq] at hj ⊢
      rcases hj with rfl | hj
      · rw [ho] at hoj
        obtain rfl : o = oj := by simpa using hoj
        exact .inr (hons e he)
      · exact .inr (hL j oj hoj hj e he)
    · have := cnt_add (L := fun j => listed.getD j false) (L' := fun j => (listed.setIfInBounds i true).getD j false) hif (by show (listed.setIfInBounds i true).getD i false = true; rw [hset]; simp) (fun j hj => by show (listed.setIfInBounds i true).getD j false = _; rw [hset]; simp [hj]) ops.size him
      omega

theorem drw_ok (htt : TTok P tt) (hk : KOk P kk) (hB : ∀ i, ¬ B.hi i) (hs : slimDrw tt nt ops = some xs) {s' : S} {M : Mem} {β : Bet} {a : Act} {w : World} (hI : Inv B w0 M β s.st s.n w) (hr : Rm M β s.tm a.tmps) (hsz : a.tmps.size = nt) (hd : a.defers = []) (he : evDrw kk 0 xs [] s = some s')
    (hQ : ∀ a' w' M' β', Inv B w0 M' β' s'.st s'.n w' → Rm M' β' s'.tm a'.tmps → a'.tmps.size = nt → a'.defers = [] → Mle M M' → Ble β β' → Q .normal a' w') : wpAny P .any ops Q ops.size (Array.replicate ops.size false) a w := by
  obtain ⟨es, h, hs'⟩ := ctx_of hs he
  have hL0 : (fun i => (Array.replicate ops.size false).getD i false) = fun _ => false := by
    funext i
    rw [Array.getD_eq_getD_getElem?, Array.getElem?_replicate]
    split <;> rfl
  refine drw_any (B := B) (w0 := w0) (M0 := M) (β0 := β) htt hk hI.lo h ?_ ops.size _ a w (by simp) ?_ ?_ ?_
  · intro L a' w' hall hJ
    obtain ⟨M', β', h1, h2, h3, h4, h5, h6, h7⟩ := hJ
    have hlen : es.length = xs.length := by rw [h.elen, h.len]
    obtain ⟨e1, e2⟩ := sAt_st xs es s ops.size hlen (by rw [h.len]; exact Nat.le_refl _)
    have hst : ∀ id, (s'.st).get id = (ov (stUs es) L s.st).get id := fun id => by
      rw [← hs', e1]
      refine ov_congr _ _ _ _ _ id (fun j u hu _ => ?_) rfl
      obtain ⟨e, hej, _⟩ := stUs_get hu
      have hj := (List.getElem?_eq_some_iff.1 hej).1
      rw [hall j (by have := h.elen; omega)]
      simp only [decide_eq_true_eq]
      have := h.elen; omega
    have htm : ∀ id, (s'.tm).get id = (ov (tmUs xs es) L s.tm).get id := fun id => by
      rw [← hs', e2]
      refine ov_congr _ _ _ _ _ id (fun j u hu _ => ?_) rfl
      obtain ⟨x, e, _, hej, _⟩ := tmUs_get hu
      have hj := (List.getElem?_eq_some_iff.1 hej).1
      rw [hall j (by have := h.elen; omega)]
      simp only [decide_eq_true_eq]
      have := h.elen; omega
    rw [hs'] at h1
    exact hQ a' w' M' β' (h1.same hst) (h3.congr htm) h4 h5 h6 h7
  · rw [hL0]
    intro i o _ hc
    cases hc
  · rw [hL0]
    refine ⟨M, β, ?_, fun id p hp => .inl ((hI.low id p hp).resolve_right (hB id)), ?_, hsz, hd, Mle.refl _, Ble.refl _⟩
    · rw [ov_none, hs']
      have hnn : s.n ≤ s'.n := by
        have := h.n_mono (i := 0) ops.size (by omega) (Nat.le_refl _)
        rwa [sAt_zero, hs'] at this
      exact ⟨hI.agree, hI.blk, hI.live, hI.apart, fun id p hp => (hI.low id p hp).imp (fun ⟨x, y⟩ => ⟨x, by omega⟩) (fun x => x), by have := hI.lo; omega, hI.below, hI.base, hI.kept, hI.old⟩
    · rw [ov_none]; exact hr
  · have := List.countP_le_length (p := fun i => !(Array.replicate ops.size false).getD i false) (l := List.range ops.size)
    simpa using this
end

/-! ### Code -/
def slimC (tt : TT) (nt : Nat) : Code → Option SC
  | .skip => some .skip
  | .label _ => some .skip
  | .region _ ops false => (slimOps tt nt ops ops.toList).map .reg
  | .region _ ops true => (slimDrw tt nt ops).map .drw
  | .seq a b => match slimC tt nt a, slimC tt nt b with
    | some x, some y => some (.seq x y)
    | _, _ => none
  | .cond c a b => match slimO c, slimC tt nt a, slimC tt nt b with
    | some c, some x, some y => some (.cond c x y)
    | _, _, _ => none
  | .block id c => (slimC tt nt c).map (.block id)
  | .loop c => (slimC tt nt c).map .loop
  | .exit id => some (.exit id)
  | .ret => some .ret
  | .scope c => slimC tt nt c
  | _ => none

def Ex.to : Ex → Exit
  | .norm => .normal
  | .exit id => .exit id
  | .ret => .ret

section
variable {P : Program} {tt : TT} {B : Fr} {w0 : World} {nt : Nat} {kk : K} {L : Nat}

/-- What code comes to. -/
def CStep (P : Program) (B : Fr) (w0 : World) (nt : Nat) (c : Code) (s : S) (ex : Ex) (s' : S) : Prop :=
  ∀ (M : Mem) (β : Bet) (a : Act) (w : World) (Q : Exit → Act → World → Prop), Inv B w0 M β s.st s.n w → Rm M β s.tm a.tmps → a.tmps.size = nt → a.defers = [] →
    (∀ a' w' M' β', Inv B w0 M' β' s'.st s'.n w' → Rm M' β' s'.tm a'.tmps → a'.tmps.size = nt → a'.defers = [] → Mle M M' → Ble β β' → Q ex.to a' w') → c.wp P Q a w

theorem inv_drew {M : Mem} {β : Bet} {st : Tr Blk} {n : Nat} {w : World} (h : Inv B w0 M β st n w) : Inv B w0 M β st n { w with drawn := w.drawn + 1 } :=
  h.idle ⟨rfl, rfl, rfl, Nat.le_refl _, fun _ _ _ => rfl⟩

theorem least {R : Nat → Prop} (h : ∃ k, R k) : ∃ k, R k ∧ ∀ j, R j → k ≤ j := by
  classical
  obtain ⟨k, hk⟩ := h
  induction k using Nat.strongRecOn with
  | _ k ih =>
    by_cases hx : ∃ j, j < k ∧ R j
    · obtain ⟨j, hj, hR⟩ := hx
      exact ih j hj hR
    · exact ⟨k, hk, fun j hj => Nat.le_of_not_lt fun hlt => hx ⟨j, hlt, hj⟩⟩

theorem loop_ok {c : Code} {sc : SC} (ih : ∀ s ex s', evC kk L sc s = some (ex, s') → CStep P B w0 nt c s ex s') (k : Nat) (s : S) (ex : Ex) (s' : S) (h : iter k (evC kk L sc) s = some (ex, s')) : CStep P B w0 nt (.loop c) s ex s' := by
  classical
  intro M β a w Q hI hr hsz hd hQ
  let R : Nat → Act → World → Prop := fun k a w => ∃ s1 M1 β1, Inv B w0 M1 β1 s1.st s1.n w ∧ Rm M1 β1 s1.tm a.tmps ∧ a.tmps.size = nt ∧ a.defers = [] ∧ iter k (evC kk L sc) s1 = some (ex, s') ∧ Mle M M1 ∧ Ble β β1
  refine wp_loop (fun a w => ∃ k, R k a w) (fun a w => if h : ∃ k, R k a w then Classical.choose (least h) else 0) ⟨k, s, M, β, hI, hr, hsz, hd, h, Mle.refl _, Ble.refl _⟩ ?_
  intro a1 w1 hR
  have hfind := (Classical.choose_spec (least hR)).1
  obtain ⟨s1, M1, β1, hI1, hr1, hsz1, hd1, h1, hM1, hβ1⟩ := hfind
  cases hk : Classical.choose (least hR) with
  | zero => rw [hk] at h1; simp [iter] at h1
  | succ k1 =>
    rw [hk] at h1
    simp only [iter] at h1
    split at h1
    · rename_i s2 h2
      refine ih _ _ _ h2 M1 β1 a1 w1 _ hI1 hr1 hsz1 hd1 fun a' w' M' β' hI' hr' hsz' hd' hM hβ => ?_
      have hR' : ∃ k, R k a' w' := ⟨k1, s2, M', β', hI', hr', hsz', hd', h1, hM1.trans hM, hβ1.trans hβ⟩
      refine ⟨hR', ?_⟩
      show (if h : ∃ k, R k a' w' then Classical.choose (least h) else 0) < (if h : ∃ k, R k a1 w1 then Classical.choose (least h) else 0)
      rw [dif_pos hR', dif_pos hR, hk]
      exact Nat.lt_succ_of_le ((Classical.choose_spec (least hR')).2 k1 ⟨s2, M', β', hI', hr', hsz', hd', h1, hM1.trans hM, hβ1.trans hβ⟩)
    · rename_i hne
      refine ih _ _ _ h1 M1 β1 a1 w1 _ hI1 hr1 hsz1 hd1 fun a' w' M' β' hI' hr' hsz' hd' hM hβ => ?_
      cases ex with
      | norm => exact absurd h1 (hne s')
      | exit id => exact hQ a' w' M' β' hI' hr' hsz' hd' (hM1.trans hM) (hβ1.trans hβ)
      | ret => exact hQ a' w' M' β' hI' hr' hsz' hd' (hM1.trans hM) (hβ1.trans hβ)

theorem code_ok (htt : TTok P tt) (hk : KOk P kk) (hB : ∀ i, ¬ B.hi i) (hmix : P.follows .mixedOrders = true) : ∀ (c : Code) (sc : SC), slimC tt nt c = some sc → ∀ (s : S) (ex : Ex) (s' : S), evC kk L sc s = some (ex, s') → CStep P B w0 nt c s ex s' := by
  intro c
  induction c with
  | skip =>
    intro sc h s ex s' he M β a w Q hI hr hsz hd hQ
    obtain rfl : SC.skip = sc := by simpa [slimC] using h
    obtain ⟨rfl, rfl⟩ : Ex.norm = ex ∧ s = s' := by simpa [evC] using he
    exact wp_skip (hQ a w M β hI hr hsz hd (Mle.refl _) (Ble.refl _))
  | label l =>
    intro sc h s ex s' he M β a w Q hI hr hsz hd hQ
    obtain rfl : SC.skip = sc := by simpa [slimC] using h
    obtain ⟨rfl, rfl⟩ : Ex.norm = ex ∧ s = s' := by simpa [evC] using he
    exact wp_label (hQ a w M β hI hr hsz hd (Mle.refl _) (Ble.refl _))
  | region id ops draw =>
    intro sc h s ex s' he M β a w Q hI hr hsz hd hQ
    cases draw with
    | false =>
      simp only [slimC] at h
      obtain ⟨xs, hx, rfl⟩ := map_some h
      simp only [evC] at he
      obtain ⟨s1, h1, h2⟩ := map_some he
      obtain ⟨rfl, rfl⟩ : Ex.norm = ex ∧ s1 = s' := by simpa using h2
      exact wp_region_list (evOps_ok htt hk hB ops.toList xs hx s s1 M β a w hI hr hsz hd h1 hQ)
    | true =>
      simp only [slimC] at h
      obtain ⟨xs, hx, rfl⟩ := map_some h
      simp only [evC] at he
      obtain ⟨s1, h1, h2⟩ := map_some he
      obtain ⟨rfl, rfl⟩ : Ex.norm = ex ∧ s1 = s' := by simpa using h2
      exact wp_region_any hmix (drw_ok htt hk hB hx (inv_drew hI) hr hsz hd h1 hQ)
  | seq c1 c2 ih1 ih2 =>
    intro sc h s ex s' he M β a w Q hI hr hsz hd hQ
    simp only [slimC] at h
    split at h
    · rename_i x y hx hy
      obtain rfl : SC.seq x y = sc := by simpa using h
      simp only [evC] at he
      refine wp_seq ?_
      split at he
      · rename_i s1 h1
        refine ih1 x hx s _ s1 h1 M β a w _ hI hr hsz hd fun a' w' M' β' hI' hr' hsz' hd' hM hβ => ?_
        exact ih2 y hy s1 ex s' he M' β' a' w' Q hI' hr' hsz' hd' fun a'' w'' M'' β'' x1 x2 x3 x4 x5 x6 => hQ a'' w'' M'' β'' x1 x2 x3 x4 (hM.trans x5) (hβ.trans x6)
      · rename_i hne
        refine ih1 x hx s ex s' he M β a w _ hI hr hsz hd fun a' w' M' β' hI' hr' hsz' hd' hM hβ => ?_
        cases ex with
        | norm => exact absurd he (hne s')
        | exit id => exact hQ a' w' M' β' hI' hr' hsz' hd' hM hβ
        | ret => exact hQ a' w' M' β' hI' hr' hsz' hd' hM hβ
    · cases h
  | cond x c1 c2 ih1 ih2 =>
    intro sc h s ex s' he M β a w Q hI hr hsz hd hQ
    simp only [slimC] at h
    split at h
    · rename_i x' y1 y2 hx h1 h2
      obtain rfl : SC.cond x' y1 y2 = sc := by simpa using h
      simp only [evC] at he
      split at he
      · rename_i t ht
        have hv := rd_ok hr x x' hx
        rw [ht] at hv
        refine wp_cond (rv_v hv).1 ?_
        cases t with
        | true => exact ih1 y1 h1 s ex s' he M β a w Q hI hr hsz hd hQ
        | false => exact ih2 y2 h2 s ex s' he M β a w Q hI hr hsz hd hQ
      · cases he
    · cases h
  | block id c ih =>
    intro sc h s ex s' he M β a w Q hI hr hsz hd hQ
    simp only [slimC] at h
    obtain ⟨x, hx, rfl⟩ := map_some h
    simp only [evC] at he
    refine wp_block ?_
    split at he
    · rename_i j s1 h1
      split at he
      · rename_i hj
        subst hj
        obtain ⟨rfl, rfl⟩ : Ex.norm = ex ∧ s1 = s' := by simpa using he
        refine ih x hx s _ s1 h1 M β a w _ hI hr hsz hd fun a' w' M' β' hI' hr' hsz' hd' hM hβ => ?_
        simp only [Ex.to, Exit.inBlock, if_true]
        exact hQ a' w' M' β' hI' hr' hsz' hd' hM hβ
      · rename_i hj
        obtain ⟨rfl, rfl⟩ : Ex.exit j = ex ∧ s1 = s' := by simpa using he
        refine ih x hx s _ s1 h1 M β a w _ hI hr hsz hd fun a' w' M' β' hI' hr' hsz' hd' hM hβ => ?_
        simp only [Ex.to, Exit.inBlock, if_neg hj]
        exact hQ a' w' M' β' hI' hr' hsz' hd' hM hβ
    · rename_i hne
      refine ih x hx s ex s' he M β a w _ hI hr hsz hd fun a' w' M' β' hI' hr' hsz' hd' hM hβ => ?_
      cases ex with
      | norm => exact hQ a' w' M' β' hI' hr' hsz' hd' hM hβ
      | exit j => exact absurd he (hne j s')
      | ret => exact hQ a' w' M' β' hI' hr' hsz' hd' hM hβ
  | loop c ih =>
    intro sc h s ex s' he
    simp only [slimC] at h
    obtain ⟨x, hx, rfl⟩ := map_some h
    simp only [evC] at he
    exact loop_ok (fun s ex s' h => ih x hx s ex s' h) L s ex s' he
  | exit id =>
    intro sc h s ex s' he M β a w Q hI hr hsz hd hQ
    obtain rfl : SC.exit id = sc := by simpa [slimC] using h
    obtain ⟨rfl, rfl⟩ : Ex.exit id = ex ∧ s = s' := by simpa [evC] using he
    exact wp_exit (hQ a w M β hI hr hsz hd (Mle.refl _) (Ble.refl _))
  | ret =>
    intro sc h s ex s' he M β a w Q hI hr hsz hd hQ
    obtain rfl : SC.ret = sc := by simpa [slimC] using h
    obtain ⟨rfl, rfl⟩ : Ex.ret = ex ∧ s = s' := by simpa [evC] using he
    exact wp_ret (hQ a w M β hI hr hsz hd (Mle.refl _) (Ble.refl _))
  | scope c ih =>
    intro sc h s ex s' he M β a w Q hI hr hsz hd hQ
    simp only [slimC] at h
    refine wp_scope_straight (ih sc h s ex s' he M β a w _ hI hr hsz hd fun a' w' M' β' hI' hr' hsz' hd' hM hβ => ?_)
    have := hQ a' w' M' β' hI' hr' hsz' hd' hM hβ
    cases ex <;> exact this
  | _ => intro sc h; simp [slimC] at h
end
end Go.Proofs.Sg
