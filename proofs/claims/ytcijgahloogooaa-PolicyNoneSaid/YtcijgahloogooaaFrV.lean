/- The frame, part V: functions. -/
import Derived.Test.YtcijgahloogooaaFrU
namespace Go.Proofs.Sg
open Go.RowKit

def slimRes (tt : TT) : List ResultVar → Option (List Rs)
  | [] => some []
  | .tmp t :: rs => (slimRes tt rs).map (.tmp t :: ·)
  | .cell a t :: rs => match tt t with
    | some d => if d.agg || d.size == 1 then (slimRes tt rs).map (.cell a d.size d.agg :: ·) else none
    | none => none

def slimF (tt : TT) (fn : Func) : Option SFn :=
  match fn.body with
  | none => none
  | some c => match slimC tt fn.ntmps c, slimRes tt fn.results.toList with
    | some b, some rs => if fn.params.size + fn.nfree ≤ fn.ntmps then some { np := fn.params.size + fn.nfree, res := rs, body := b } else none
    | _, _ => none

section
variable {P : Program} {tt : TT} {B : Fr} {w0 w : World} {M : Mem} {β : Bet} {s : S}

def resOf (tmps : Array Value) : ResultVar → Sem Value
  | .tmp t => pure (tmps.getD t undef)
  | .cell a t => do loadVar t (← asAddr (tmps.getD a undef))

theorem res_ok (htt : TTok P tt) (hI : Inv B w0 M β s.st s.n w) {tmps : Array Value} (hr : Rm M β s.tm tmps) : ∀ {rs : List ResultVar} {xs : List Rs} {l : List (Bool × List C)}, slimRes tt rs = some xs → ress s xs = some l →
    ∃ vals : List Value, (rs.mapM (resOf tmps)).run P w = .ok vals w ∧ All2 (RG M β) vals l
  | [], xs, l, h1, h2 => by
    obtain rfl : [] = xs := by simpa [slimRes] using h1
    obtain rfl : [] = l := by simpa [ress] using h2
    exact ⟨[], by simp, trivial⟩
  | .tmp t :: rs, xs, l, h1, h2 => by
    simp only [slimRes] at h1
    obtain ⟨ys, h3, rfl⟩ := map_some h1
    simp only [ress] at h2
    split at h2
    · cases h2
    · rename_i x hx
      obtain ⟨l', h4, rfl⟩ := map_some h2
      obtain ⟨vals, h5, h6⟩ := res_ok htt hI hr h3 h4
      refine ⟨tmps.getD t undef :: vals, ?_, ?_, h6⟩
      · simp [List.mapM_cons, resOf, h5]
      · simp only [res1] at hx
        split at hx
        · rename_i c hc
          obtain rfl : (false, [c]) = x := by simpa using hx
          exact ⟨c, rfl, (hr t _ hc).1⟩
        · rename_i cs hc
          obtain rfl : (true, cs) = x := by simpa using hx
          exact (hr t _ hc).1
        · cases hx
  | .cell a t :: rs, xs, l, h1, h2 => by
    simp only [slimRes] at h1
    split at h1
    · rename_i d hd
      split at h1
      · rename_i hagg
        obtain ⟨ys, h3, rfl⟩ := map_some h1
        simp only [ress] at h2
        split at h2
        · cases h2
        · rename_i x hx
          obtain ⟨l', h4, rfl⟩ := map_some h2
          obtain ⟨vals, h5, h6⟩ := res_ok htt hI hr h3 h4
          simp only [res1] at hx
          split at hx
          · rename_i id off hc
            obtain ⟨⟨p, hp, hval⟩, _⟩ := hr a _ hc
            split at hx
            · rename_i cs hb
              split at hx
              · rename_i hle
                obtain rfl : (d.agg, (cs.drop off).take d.size) = x := by simpa using hx
                obtain ⟨q, hq, full, ty, hh, hcs⟩ := hI.blk id _ hb
                rw [hp] at hq
                obtain rfl : p = q := by simpa using hq
                have hall : All2 (RC M β) ((full.drop off).take d.size) ((cs.drop off).take d.size) := (hcs.drop off).take d.size
                have hlen : ((full.drop off).take d.size).length = d.size := by
                  have := hcs.length
                  simp; omega
                have hone : d.agg = false → ∃ x, (full.drop off).take d.size = [x] := fun hf => by
                  rw [hf] at hagg
                  have h1' : d.size = 1 := by simpa using hagg
                  exact List.length_eq_one_iff.1 (by rw [hlen, h1'])
                have hrun := loadVar_ok (w := w) (htt t d hd) hh rfl hlen hone
                refine ⟨(if d.agg then .agg ((full.drop off).take d.size).toArray else ((full.drop off).take d.size).headD undef) :: vals, ?_, ?_, h6⟩
                · simp only [List.mapM_cons, resOf, hval, asAddr, Sem.run_bind, Sem.run_pure, Result.andThen_ok, hrun, h5]
                · unfold RG
                  cases hag : d.agg with
                  | true => exact ⟨_, rfl, hall⟩
                  | false =>
                    obtain ⟨x, hx'⟩ := hone hag
                    rw [hx'] at hall
                    simp only [Bool.false_eq_true, if_false]
                    match hcs' : (cs.drop off).take d.size, hall with
                    | [c], hall => exact ⟨c, rfl, by rw [hx']; exact hall.1⟩
              · cases hx
            · cases hx
          · cases hx
      · cases h1
    · cases h1

theorem results_ok (htt : TTok P tt) (hI : Inv B w0 M β s.st s.n w) {tmps : Array Value} (hr : Rm M β s.tm tmps) {fn : Func} {xs : List Rs} {v : V} (h1 : slimRes tt fn.results.toList = some xs) (h2 : resV s xs = some v) :
    ∃ val, (results fn tmps).run P w = .ok val w ∧ RV M β val v := by
  unfold resV at h2
  cases hl : ress s xs with
  | none => rw [hl] at h2; cases h2
  | some l =>
    obtain ⟨vals, hrun, hall⟩ := res_ok htt hI hr h1 hl
    have hres : (results fn tmps).run P w = .ok (if h : vals.toArray.size = 1 then vals.toArray[0] else .tuple vals.toArray) w := by
      have e : results fn tmps = (do
          let vs ← fn.results.mapM (resOf tmps)
          pure (if h : vs.size = 1 then vs[0] else .tuple vs)) := by
        unfold results
        congr 1
      rw [e, Array.mapM_eq_mapM_toList]
      simp [hrun]
    refine ⟨_, hres, ?_⟩
    rw [hl] at h2
    match l, vals, hall, h2 with
    | [], [], _, h2 =>
      obtain rfl : V.tup [] = v := by simpa using h2
      exact ⟨[], by simp, trivial⟩
    | [(agg, cs)], [val], hall, h2 =>
      have h2' : mk agg cs = some v := by simpa using h2
      have h3 := hall.1
      unfold RG at h3
      unfold mk at h2'
      cases agg with
      | true =>
        obtain rfl : V.agg cs = v := by simpa using h2'
        have h5 : ∃ vs : List Value, val = .agg vs.toArray ∧ All2 (RC M β) vs cs := by simpa using h3
        simpa using (show RV M β val (.agg cs) from h5)
      | false =>
        obtain ⟨c, e, h4⟩ : ∃ c, cs = [c] ∧ RC M β val c := by simpa using h3
        subst e
        obtain rfl : V.c c = v := by simpa using h2'
        simpa using (show RV M β val (.c c) from h4)
    | x :: y :: l, a :: b :: vals, hall, h2 =>
      obtain rfl : V.tup (x :: y :: l) = v := by simpa using h2
      exact ⟨a :: b :: vals, by simp, hall⟩
end

theorem args0_get : ∀ (vs : List V) (k : Nat) (t : Tr V) (i : Nat), (args0 k vs t).get i = if k ≤ i ∧ i < k + vs.length then vs[i - k]? else t.get i
  | [], k, t, i => by
    simp only [args0, List.length_nil, Nat.add_zero]
    rw [if_neg (by omega)]
  | v :: vs, k, t, i => by
    simp only [args0]
    rw [args0_get vs (k + 1), Tr.get_set]
    by_cases h : i = k
    · subst h
      rw [if_neg (by omega), if_pos rfl, if_pos (by simp)]
      simp
    · rw [if_neg h]
      by_cases h2 : k + 1 ≤ i ∧ i < k + 1 + vs.length
      · rw [if_pos h2, if_pos (by simp only [List.length_cons]; omega)]
        obtain ⟨j, hj⟩ : ∃ j, i - k = j + 1 := ⟨i - k - 1, by omega⟩
        rw [hj, show i - (k + 1) = j by omega]
        simp
      · rw [if_neg h2, if_neg (by simp only [List.length_cons]; omega)]

section
variable {P : Program} {tt : TT} {kk : K} {L : Nat}

theorem body_ok (htt : TTok P tt) (hk : KOk P kk) (hmix : P.follows .mixedOrders = true) {f : FuncId} {fn : Func} {sf : SFn} (hf : P.funcs[f]? = some fn) (hsl : slimF tt fn = some sf) {args : List V} {st st' : Tr Blk} {n n' : Nat} {v : V}
    (he : evBody kk L sf args st n = some (v, st', n')) (B : Fr) (w0 : World) (M : Mem) (β : Bet) (w : World) (vals : List Value) (hB : ∀ i, ¬ B.hi i) (hI : Inv B w0 M β st n w) (hargs : All2 (RV M β) vals args) :
    Calls P f vals.toArray w fun
      | .returned val, w' => ∃ M' β', Inv B w0 M' β' st' n' w' ∧ RV M' β' val v ∧ Mle M M' ∧ Ble β β'
      | _, _ => False := by
  unfold slimF at hsl
  cases hb : fn.body with
  | none => rw [hb] at hsl; cases hsl
  | some c =>
    rw [hb] at hsl
    dsimp only at hsl
    split at hsl
    · rename_i b rs hc hrs
      split at hsl
      · rename_i hnp
        obtain rfl : _ = sf := by simpa using hsl
        unfold evBody at he
        dsimp only at he
        split at he
        · rename_i hal
          have hvl : vals.length = args.length := hargs.length
          have hrm : Rm M β (args0 0 args .leaf) (vals.toArray ++ Array.replicate (fn.ntmps - vals.toArray.size) undef) := by
            intro i v hi
            rw [args0_get] at hi
            split at hi
            · rename_i hr
              obtain ⟨x, hx, hv⟩ := All2.get hargs i v (by simpa using hi)
              have hil : i < vals.length := (List.getElem?_eq_some_iff.1 hx).1
              refine ⟨?_, by simp; omega⟩
              rw [Array.getD_eq_getD_getElem?, Array.getElem?_append_left (by simpa using hil)]
              simp only [List.getElem?_toArray, hx, Option.getD_some]
              exact hv
            · simp [Tr.get_leaf] at hi
          have hsz : (vals.toArray ++ Array.replicate (fn.ntmps - vals.toArray.size) undef).size = fn.ntmps := by simp; omega
          have hgo : ∀ (ex : Ex) (s' : S), evC kk L b { tm := args0 0 args .leaf, st, n } = some (ex, s') → (ex = .norm ∨ ex = .ret) → resV s' rs = some v → s'.st = st' → s'.n = n' → Calls P f vals.toArray w fun
              | .returned val, w' => ∃ M' β', Inv B w0 M' β' st' n' w' ∧ RV M' β' val v ∧ Mle M M' ∧ Ble β β'
              | _, _ => False := by
            intro ex s' hev hex hres h1 h2
            refine calls_of_wp hf hb ?_
            refine code_ok htt hk hB hmix c b hc _ ex s' hev M β _ w _ hI hrm hsz rfl fun a' w' M' β' hI' hr' _ hd' hM hβ => ?_
            obtain ⟨val, hrun, hv⟩ := results_ok htt hI' hr' hrs hres
            rw [h1, h2] at hI'
            rcases hex with rfl | rfl
            · exact ⟨hd', val, hrun, M', β', hI', hv, hM, hβ⟩
            · exact ⟨hd', val, hrun, M', β', hI', hv, hM, hβ⟩
          split at he
          · rename_i s' hev
            obtain ⟨v', h3, h4⟩ := map_some he
            obtain ⟨rfl, rfl, rfl⟩ : v' = v ∧ s'.st = st' ∧ s'.n = n' := by simpa using h4
            exact hgo _ s' hev (.inl rfl) h3 rfl rfl
          · rename_i s' hev
            obtain ⟨v', h3, h4⟩ := map_some he
            obtain ⟨rfl, rfl, rfl⟩ : v' = v ∧ s'.st = st' ∧ s'.n = n' := by simpa using h4
            exact hgo _ s' hev (.inr rfl) h3 rfl rfl
          · cases he
        · cases he
      · cases hsl
    · cases hsl
end

/-! ### What a result leads to -/
def ren (β : Bet) (ids : List Nat) : Bet := fun j => match ids[j]? with
  | some id => β id
  | none => none

theorem posOf_some {i : Nat} : ∀ {xs : List Nat} {k j : Nat}, posOf i k xs = some j → k ≤ j ∧ xs[j - k]? = some i
  | [], k, j, h => by cases h
  | x :: xs, k, j, h => by
    unfold posOf at h
    split at h
    · rename_i e
      obtain rfl : k = j := by simpa using h
      exact ⟨Nat.le_refl _, by simp [e]⟩
    · obtain ⟨h1, h2⟩ := posOf_some h
      refine ⟨by omega, ?_⟩
      obtain ⟨m, hm⟩ : ∃ m, j - k = m + 1 := ⟨j - k - 1, by omega⟩
      rw [show j - (k + 1) = m by omega] at h2
      rw [hm]
      simpa using h2

theorem posOf_none {i : Nat} : ∀ {xs : List Nat} {k : Nat}, posOf i k xs = none → i ∉ xs
  | [], _, _ => by simp
  | x :: xs, k, h => by
    unfold posOf at h
    split at h
    · cases h
    · rename_i e
      have := posOf_none h
      simp only [List.mem_cons, not_or]
      exact ⟨fun h => e h.symm, this⟩

section
variable {B : Fr} {w0 w : World} {M : Mem} {β : Bet} {st : Tr Blk} {n : Nat}

theorem pre_get {ids IDS : List Nat} (h : ids <+: IDS) {j id : Nat} (hj : ids[j]? = some id) : IDS[j]? = some id := by
  obtain ⟨t, rfl⟩ := h
  rw [List.getElem?_append_left (List.getElem?_eq_some_iff.1 hj).1]
  exact hj

theorem extC_ok (hI : Inv B w0 M β st n w) {ids ids' : List Nat} {c c' : C} (h : extC st ids c = some (c', ids')) :
    ids <+: ids' ∧ (ids.Nodup → ids'.Nodup) ∧ ∀ IDS val, ids' <+: IDS → RC M β val c → RC M (ren β IDS) val c' := by
  cases c with
  | t x =>
    obtain ⟨rfl, rfl⟩ : C.t x = c' ∧ ids = ids' := by simpa [extC] using h
    exact ⟨List.prefix_refl _, fun x => x, fun IDS val _ hr => hr⟩
  | own id e off len =>
    simp only [extC] at h
    split at h
    · rename_i cs hb
      split at h
      · rename_i hle
        obtain ⟨rfl, rfl⟩ : C.t (.sl len ((cs.drop off).take (len * e))) = c' ∧ ids = ids' := by simpa using h
        refine ⟨List.prefix_refl _, fun x => x, fun IDS val _ hr => ?_⟩
        obtain ⟨p, cap, hp, hval, h1, h2, h3⟩ := hr
        obtain ⟨q, hq, mc, hm, hcs⟩ := hI.blk id _ hb
        rw [hp] at hq
        obtain rfl : p = q := by simpa using hq
        show RT M val _
        unfold RT
        exact ⟨_, cap, hval, h1, h2, .inr ⟨p.1, off, mc, rfl, hm, (hcs.drop off).take _⟩⟩
      · cases h
    · split at h
      · rename_i j hj
        obtain ⟨rfl, rfl⟩ : C.own j e off len = c' ∧ ids = ids' := by simpa using h
        obtain ⟨_, hg⟩ := posOf_some hj
        refine ⟨List.prefix_refl _, fun x => x, fun IDS val hpre hr => ?_⟩
        obtain ⟨p, cap, hp, hrest⟩ := hr
        refine ⟨p, cap, ?_, hrest⟩
        unfold ren
        rw [pre_get hpre (by simpa using hg)]
        exact hp
      · rename_i hj
        obtain ⟨rfl, rfl⟩ : C.own ids.length e off len = c' ∧ ids ++ [id] = ids' := by simpa using h
        refine ⟨List.prefix_append _ _, fun hn => ?_, fun IDS val hpre hr => ?_⟩
        · rw [List.nodup_append]
          exact ⟨hn, by simp, fun a ha b hb => by simp at hb; subst hb; intro e; subst e; exact posOf_none hj ha⟩
        · obtain ⟨p, cap, hp, hrest⟩ := hr
          refine ⟨p, cap, ?_, hrest⟩
          unfold ren
          rw [pre_get hpre (show (ids ++ [id])[ids.length]? = some id by simp)]
          exact hp
    · cases h
  | ptr id off =>
    simp only [extC] at h
    split at h
    · split at h
      · rename_i j hj
        obtain ⟨rfl, rfl⟩ : C.ptr j off = c' ∧ ids = ids' := by simpa using h
        obtain ⟨_, hg⟩ := posOf_some hj
        refine ⟨List.prefix_refl _, fun x => x, fun IDS val hpre hr => ?_⟩
        obtain ⟨p, hp, hrest⟩ := hr
        refine ⟨p, ?_, hrest⟩
        unfold ren
        rw [pre_get hpre (by simpa using hg)]
        exact hp
      · rename_i hj
        obtain ⟨rfl, rfl⟩ : C.ptr ids.length off = c' ∧ ids ++ [id] = ids' := by simpa using h
        refine ⟨List.prefix_append _ _, fun hn => ?_, fun IDS val hpre hr => ?_⟩
        · rw [List.nodup_append]
          exact ⟨hn, by simp, fun a ha b hb => by simp at hb; subst hb; intro e; subst e; exact posOf_none hj ha⟩
        · obtain ⟨p, hp, hrest⟩ := hr
          refine ⟨p, ?_, hrest⟩
          unfold ren
          rw [pre_get hpre (show (ids ++ [id])[ids.length]? = some id by simp)]
          exact hp
    · cases h
  | _ => simp [extC] at h

theorem extCs_ok (hI : Inv B w0 M β st n w) : ∀ {cs cs' : List C} {ids ids' : List Nat}, extCs st ids cs = some (cs', ids') →
    ids <+: ids' ∧ (ids.Nodup → ids'.Nodup) ∧ ∀ IDS vals, ids' <+: IDS → All2 (RC M β) vals cs → All2 (RC M (ren β IDS)) vals cs'
  | [], cs', ids, ids', h => by
    obtain ⟨rfl, rfl⟩ : [] = cs' ∧ ids = ids' := by simpa [extCs] using h
    exact ⟨List.prefix_refl _, fun x => x, fun IDS vals _ hr => by cases vals; trivial; exact hr.elim⟩
  | c :: cs, cs', ids, ids', h => by
    simp only [extCs] at h
    split at h
    · cases h
    · rename_i c1 ids1 h1
      split at h
      · cases h
      · rename_i cs1 ids2 h2
        obtain ⟨rfl, rfl⟩ : c1 :: cs1 = cs' ∧ ids2 = ids' := by simpa using h
        obtain ⟨a1, a2, a3⟩ := extC_ok hI h1
        obtain ⟨b1, b2, b3⟩ := extCs_ok hI h2
        refine ⟨a1.trans b1, fun x => b2 (a2 x), fun IDS vals hpre hr => ?_⟩
        cases vals with
        | nil => exact hr.elim
        | cons v vals => exact ⟨a3 IDS v (b1.trans hpre) hr.1, b3 IDS vals hpre hr.2⟩

theorem extTs_ok (hI : Inv B w0 M β st n w) : ∀ {cs cs' : List (Bool × List C)} {ids ids' : List Nat}, extTs st ids cs = some (cs', ids') →
    ids <+: ids' ∧ (ids.Nodup → ids'.Nodup) ∧ ∀ IDS vals, ids' <+: IDS → All2 (RG M β) vals cs → All2 (RG M (ren β IDS)) vals cs'
  | [], cs', ids, ids', h => by
    obtain ⟨rfl, rfl⟩ : [] = cs' ∧ ids = ids' := by simpa [extTs] using h
    exact ⟨List.prefix_refl _, fun x => x, fun IDS vals _ hr => by cases vals; trivial; exact hr.elim⟩
  | c :: cs, cs', ids, ids', h => by
    simp only [extTs] at h
    split at h
    · cases h
    · rename_i c1 ids1 h1
      split at h
      · cases h
      · rename_i cs1 ids2 h2
        obtain ⟨rfl, rfl⟩ : (c.1, c1) :: cs1 = cs' ∧ ids2 = ids' := by simpa using h
        obtain ⟨a1, a2, a3⟩ := extCs_ok hI h1
        obtain ⟨b1, b2, b3⟩ := extTs_ok hI h2
        refine ⟨a1.trans b1, fun x => b2 (a2 x), fun IDS vals hpre hr => ?_⟩
        cases vals with
        | nil => exact hr.elim
        | cons v vals =>
          refine ⟨?_, b3 IDS vals hpre hr.2⟩
          have h3 := hr.1
          unfold RG at *
          cases hb : c.1 with
          | true =>
            simp only [hb, if_true] at h3 ⊢
            obtain ⟨vs, e, h4⟩ := h3
            exact ⟨vs, e, a3 IDS vs (b1.trans hpre) h4⟩
          | false =>
            simp only [hb, Bool.false_eq_true, if_false] at h3 ⊢
            obtain ⟨x, e, h4⟩ := h3
            have h5 := a3 IDS [v] (b1.trans hpre) (by rw [e]; exact ⟨h4, trivial⟩)
            match c1, h5 with
            | [y], h5 => exact ⟨y, rfl, h5.1⟩

theorem extV_ok (hI : Inv B w0 M β st n w) {v v' : V} {ids : List Nat} (h : extV st v = some (v', ids)) : ids.Nodup ∧ ∀ IDS val, ids <+: IDS → RV M β val v → RV M (ren β IDS) val v' := by
  cases v with
  | c x =>
    simp only [extV] at h
    obtain ⟨p, h1, h2⟩ := map_some h
    obtain ⟨rfl, rfl⟩ : V.c p.1 = v' ∧ p.2 = ids := by simpa using h2
    obtain ⟨a1, a2, a3⟩ := extC_ok hI (show extC st [] x = some (p.1, p.2) from h1)
    exact ⟨a2 List.nodup_nil, fun IDS val hp hr => a3 IDS val hp hr⟩
  | agg cs =>
    simp only [extV] at h
    obtain ⟨p, h1, h2⟩ := map_some h
    obtain ⟨rfl, rfl⟩ : V.agg p.1 = v' ∧ p.2 = ids := by simpa using h2
    obtain ⟨a1, a2, a3⟩ := extCs_ok hI (show extCs st [] cs = some (p.1, p.2) from h1)
    refine ⟨a2 List.nodup_nil, fun IDS val hp hr => ?_⟩
    obtain ⟨vs, e, h3⟩ := hr
    exact ⟨vs, e, a3 IDS vs hp h3⟩
  | tup xs =>
    simp only [extV] at h
    obtain ⟨p, h1, h2⟩ := map_some h
    obtain ⟨rfl, rfl⟩ : V.tup p.1 = v' ∧ p.2 = ids := by simpa using h2
    obtain ⟨a1, a2, a3⟩ := extTs_ok hI (show extTs st [] xs = some (p.1, p.2) from h1)
    refine ⟨a2 List.nodup_nil, fun IDS val hp hr => ?_⟩
    obtain ⟨vs, e, h3⟩ := hr
    exact ⟨vs, e, a3 IDS vs hp h3⟩

theorem extB_ok (hI : Inv B w0 M β st n w) : ∀ (fu : Nat) (ids rest done : List Nat) (bs : List Blk), ids = done ++ rest → ids.Nodup → extB st fu ids rest = some bs →
    ∃ IDS, ids <+: IDS ∧ IDS.Nodup ∧ done.length + bs.length = IDS.length ∧ ∀ j b, bs[j]? = some b → ∃ id b0, IDS[done.length + j]? = some id ∧ st.get id = some b0 ∧ (b.live = b0.live) ∧ ∀ p, HB M β w p b0 → HB M (ren β IDS) w p b
  | 0, _, _, _, _, _, _, h => by cases h
  | fu + 1, ids, [], done, bs, hids, hn, h => by
    obtain rfl : [] = bs := by simpa [extB] using h
    exact ⟨ids, List.prefix_refl _, hn, by simp [hids], by simp⟩
  | fu + 1, ids, i :: rest, done, bs, hids, hn, h => by
    simp only [extB] at h
    have hat : ids[done.length]? = some i := by rw [hids]; simp
    split at h
    · rename_i e cs hb
      obtain ⟨bs', h1, rfl⟩ := map_some h
      obtain ⟨IDS, a1, a2, a3, a4⟩ := extB_ok hI fu ids rest (done ++ [i]) bs' (by simp [hids]) hn h1
      refine ⟨IDS, a1, a2, by simp at a3 ⊢; omega, fun j b hj => ?_⟩
      cases j with
      | zero =>
        obtain rfl : Blk.arr e cs = b := by simpa using hj
        exact ⟨i, _, pre_get a1 hat, hb, rfl, fun p hH => hH⟩
      | succ j =>
        obtain ⟨id, b0, h2, h3⟩ := a4 j b (by simpa using hj)
        exact ⟨id, b0, by rw [← h2]; congr 1; simp; omega, h3⟩
    · rename_i cs hb
      split at h
      · cases h
      · rename_i cs' ids' hcs
        obtain ⟨bs', h1, rfl⟩ := map_some h
        obtain ⟨c1, c2, c3⟩ := extCs_ok hI hcs
        obtain ⟨t, rfl⟩ := c1
        obtain ⟨IDS, a1, a2, a3, a4⟩ := extB_ok hI fu (ids ++ t) (rest ++ (ids ++ t).drop ids.length) (done ++ [i]) bs' (by simp [hids]) (c2 hn) h1
        refine ⟨IDS, (List.prefix_append _ _).trans a1, a2, by simp at a3 ⊢; omega, fun j b hj => ?_⟩
        cases j with
        | zero =>
          obtain rfl : Blk.box cs' = b := by simpa using hj
          refine ⟨i, _, pre_get ((List.prefix_append _ _).trans a1) hat, hb, rfl, fun p hH => ?_⟩
          obtain ⟨full, ty, hh, hall⟩ := hH
          exact ⟨full, ty, hh, c3 IDS full a1 hall⟩
        | succ j =>
          obtain ⟨id, b0, h2, h3⟩ := a4 j b (by simpa using hj)
          exact ⟨id, b0, by rw [← h2]; congr 1; simp; omega, h3⟩
    · cases h

theorem ext_ok (hI : Inv B w0 M β st n w) (hlo : B.lo = 0) {val : Value} {v v' : V} {ids : List Nat} {nb : List Blk} {fu : Nat} (hv : RV M β val v) (h1 : extV st v = some (v', ids)) (h2 : extB st fu ids ids = some nb) :
    ∃ β', Inv B w0 M β' (stOf nb) nb.length w ∧ RV M β' val v' := by
  obtain ⟨hn, hv'⟩ := extV_ok hI h1
  obtain ⟨IDS, a1, a2, a3, a4⟩ := extB_ok hI fu ids ids [] nb rfl hn h2
  simp only [List.length_nil, Nat.zero_add] at a3 a4
  have hren : ∀ (i id : Nat), IDS[i]? = some id → ren β IDS i = β id := fun i id h => by unfold ren; rw [h]
  refine ⟨ren β IDS, ⟨hI.agree, ?_, ?_, ?_, ?_, by omega, hI.below, hI.base, hI.kept, hI.old⟩, hv' IDS val a1 hv⟩
  · intro i b hb
    rw [stOf_get] at hb
    obtain ⟨id, b0, h3, h4, _, h6⟩ := a4 i b hb
    obtain ⟨p, hp, hH⟩ := hI.blk id b0 h4
    exact ⟨p, by rw [hren i id h3]; exact hp, h6 p hH⟩
  · intro i b p hb hl hp
    rw [stOf_get] at hb
    obtain ⟨id, b0, h3, h4, h5, _⟩ := a4 i b hb
    rw [hren i id h3] at hp
    exact hI.live id b0 p h4 (by rw [← h5]; exact hl) hp
  · intro i j bi bj p q hi hj hli hlj hp hq hne
    rw [stOf_get] at hi hj
    obtain ⟨id, b0, h3, h4, h5, _⟩ := a4 i bi hi
    obtain ⟨id', b0', h3', h4', h5', _⟩ := a4 j bj hj
    rw [hren i id h3] at hp
    rw [hren j id' h3'] at hq
    refine hI.apart id id' b0 b0' p q h4 h4' (by rw [← h5]; exact hli) (by rw [← h5']; exact hlj) hp hq fun e => hne ?_
    subst e
    exact (List.getElem?_inj (List.getElem?_eq_some_iff.1 h3).1 a2).1 (h3.trans h3'.symm)
  · intro i p hp
    left
    refine ⟨by omega, ?_⟩
    unfold ren at hp
    cases hx : IDS[i]? with
    | none => rw [hx] at hp; cases hp
    | some id => have := (List.getElem?_eq_some_iff.1 hx).1; omega
end

section
variable {B : Fr} {w0 w : World} {M : Mem} {β : Bet} {st : Tr Blk} {n : Nat}

theorem clo_ok (hI : Inv B w0 M β st n w) (hlo : B.lo = 0) {val : Value} {v r : V} (hv : RV M β val v) (h : cloV st v = some r) :
    ∃ M', Mle M M' ∧ Inv B w0 M' nob (stOf []) 0 w ∧ RV M' nob val r := by
  unfold cloV at h
  split at h
  · rename_i f id
    split at h
    · rename_i x hb
      obtain rfl : V.c (.t (.fn f [x])) = r := by simpa using h
      obtain ⟨p, hp, full, ty, hh, hall⟩ := hI.blk id _ hb
      match full, hall with
      | [y], hall =>
        have hxy : RT M y x := hall.1
        have hcs : RTs M [y] [x] := by unfold RTs; exact ⟨hxy, by unfold RTs; trivial⟩
        obtain ⟨hM, hI'⟩ := hI.freeze hb rfl hp hh hcs
        refine ⟨_, hM, ⟨hI'.agree, (fun id b hb => by rw [stOf_get] at hb; cases hb), (fun id b p hb => by rw [stOf_get] at hb; cases hb), (fun i j bi bj p q hb => by rw [stOf_get] at hb; cases hb), (fun id p hp => by cases hp), by omega, hI'.below, hI'.base, hI'.kept, hI'.old⟩, ?_⟩
        obtain ⟨ps, e, hps⟩ := hv
        match ps, hps with
        | [q], hps =>
          obtain ⟨p', hp', hq⟩ := hps.1
          rw [hp] at hp'
          obtain rfl : p = p' := by simpa using hp'
          show RT _ val (.fn f [x])
          unfold RT
          refine ⟨[q], e, ?_⟩
          unfold RPs
          exact ⟨⟨p.1, y, [], hq, by simp [Mem.ext], RT.mono hM hxy⟩, by unfold RPs; trivial⟩
    · cases h
  · cases h
end

/-! ### Results as trees -/
section
variable {B : Fr} {w0 w : World} {β : Bet} {st : Tr Blk} {n : Nat}

theorem toRs_ok : ∀ {cs xs : List (Bool × List C)} {vals : List Value} {M : Mem} {st' : Tr Blk}, Fz st st' → Inv B w0 M β st' n w → All2 (RG M β) vals cs → toRs st.get cs = some xs →
    ∃ M' st'', Mle M M' ∧ Inv B w0 M' β st'' n w ∧ All2 (RG M' nob) vals xs
  | [], xs, [], M, st', hf, hI, _, h => by
    obtain rfl : [] = xs := by simpa [toRs] using h
    exact ⟨M, st', Mle.refl _, hI, trivial⟩
  | [], _, _ :: _, _, _, _, _, hr, _ => hr.elim
  | _ :: _, _, [], _, _, _, _, hr, _ => hr.elim
  | (a, cs) :: l, xs, v :: vals, M, st', hf, hI, hr, h => by
    simp only [toRs] at h
    cases h1 : toTs st.get cs with
    | none => simp [h1] at h
    | some x =>
      obtain ⟨ts, u⟩ := x
      cases h2 : toRs st.get l with
      | none => simp [h1, h2] at h
      | some ys =>
        obtain rfl : (a, ts.map C.t) :: ys = xs := by simpa [h1, h2] using h
        have hv : RG M β v (a, cs) := hr.1
        unfold RG at hv
        cases a with
        | true =>
          simp only [if_true] at hv
          obtain ⟨vs, rfl, hvs⟩ := hv
          obtain ⟨M1, b1, b2, b3, b4⟩ := toTs_ok hf hI hvs h1
          obtain ⟨M2, st2, c1, c2, c3⟩ := toRs_ok b3 b2 (hr.2.mono fun _ _ => RG.mono b1 (Ble.refl _)) h2
          exact ⟨M2, st2, b1.trans c1, c2, (by unfold RG; simp only [if_true]; exact ⟨vs, rfl, RTs_C (b4.mono fun _ _ => RT.mono c1)⟩), c3⟩
        | false =>
          simp only [Bool.false_eq_true, if_false] at hv
          obtain ⟨c, rfl, hc⟩ := hv
          obtain ⟨M1, b1, b2, b3, b4⟩ := toTs_ok (vals := [v]) (cs := [c]) hf hI ⟨hc, trivial⟩ h1
          obtain ⟨M2, st2, c1, c2, c3⟩ := toRs_ok b3 b2 (hr.2.mono fun _ _ => RG.mono b1 (Ble.refl _)) h2
          match ts, b4 with
          | [t], b4 => exact ⟨M2, st2, b1.trans c1, c2, (by unfold RG; simp only [Bool.false_eq_true, if_false]; exact ⟨.t t, rfl, RT.mono c1 b4.1⟩), c3⟩

theorem toR_ok {M : Mem} (hI : Inv B w0 M β st n w) {val : Value} {v t : V} (hr : RV M β val v) (h : toR st.get v = some t) : ∃ M' st', Mle M M' ∧ Inv B w0 M' β st' n w ∧ RV M' nob val t := by
  cases v with
  | c x =>
    simp only [toR] at h
    cases h1 : toT st.get x with
    | none => simp [h1] at h
    | some y =>
      obtain ⟨t', u⟩ := y
      obtain rfl : V.c (.t t') = t := by simpa [h1] using h
      obtain ⟨M1, b1, b2, b3, b4⟩ := toT_ok (Fz.refl _) hI hr h1
      exact ⟨M1, _, b1, b2, b4⟩
  | agg cs =>
    simp only [toR] at h
    cases h1 : toTs st.get cs with
    | none => simp [h1] at h
    | some y =>
      obtain ⟨ts, u⟩ := y
      obtain rfl : V.agg (ts.map C.t) = t := by simpa [h1] using h
      obtain ⟨vs, rfl, hvs⟩ := hr
      obtain ⟨M1, b1, b2, b3, b4⟩ := toTs_ok (Fz.refl _) hI hvs h1
      exact ⟨M1, _, b1, b2, vs, rfl, RTs_C b4⟩
  | tup l =>
    simp only [toR] at h
    cases h1 : toRs st.get l with
    | none => simp [h1] at h
    | some xs =>
      obtain rfl : V.tup xs = t := by simpa [h1] using h
      obtain ⟨vs, rfl, hvs⟩ := hr
      obtain ⟨M1, st1, b1, b2, b3⟩ := toRs_ok (Fz.refl _) hI hvs h1
      exact ⟨M1, st1, b1, b2, vs, rfl, b3⟩
end

theorem Iso.frz {P : Program} {f : FuncId} {ts : List V} {r t : V} {nb : List Blk} (h : Iso P f ts r nb) (ht : toR (stOf nb).get r = some t) : Iso P f ts t [] := by
  refine ⟨h.1, fun M w vals hag hargs => Calls.mono (h.2 M w vals hag hargs) fun e w' hR => ?_⟩
  cases e with
  | returned val =>
    obtain ⟨M', β', hI, hv, hM⟩ := hR
    obtain ⟨M2, st2, k1, k2, k3⟩ := toR_ok hI hv ht
    exact ⟨M2, nob, ⟨k2.agree, (fun id b hb => by rw [stOf_get] at hb; cases hb), (fun id b p hb => by rw [stOf_get] at hb; cases hb), (fun i j bi bj p q hb => by rw [stOf_get] at hb; cases hb), (fun id p hp => by cases hp), Nat.zero_le _, k2.below, k2.base, k2.kept, k2.old⟩, k3, hM.trans k1⟩
  | panicked c => exact hR.elim
  | outgrown => exact hR.elim

theorem frzR_ok {P : Program} {f : FuncId} {ts : List V} {z : Bool} {x : Option (V × List Blk)} (h : ∀ r nb, x = some (r, nb) → Iso P f ts r nb) {r : V} {nb : List Blk} (hx : frzR z x = some (r, nb)) : Iso P f ts r nb := by
  unfold frzR at hx
  split at hx
  · split at hx
    · rename_i r0 nb0
      split at hx
      · rename_i t ht
        obtain ⟨rfl, rfl⟩ : t = r ∧ [] = nb := by simpa using hx
        exact (h _ _ rfl).frz ht
      · cases hx
    · cases hx
  · exact h _ _ hx

/-! ### The whole -/
structure EnvOk (P : Program) (tt : TT) (E : Env) : Prop where
  fn : ∀ f sf, E.fn f = some sf → ∃ fn, P.funcs[f]? = some fn ∧ (fn.name == "runtime.NumGoroutine") = false ∧ slimF tt fn = some sf
  prim : ∀ f p, E.prim f = some p → ∀ ts r nb, p ts = some (r, nb) → Iso P f ts r nb

section
variable {P : Program} {tt : TT} {E : Env}

theorem fnOk_of {f : FuncId} {fn : Func} {sf : SFn} (h1 : P.funcs[f]? = some fn) (h2 : (fn.name == "runtime.NumGoroutine") = false) (h3 : slimF tt fn = some sf) : FnOk P f := by
  refine ⟨fn, h1, h2, ?_⟩
  unfold slimF at h3
  cases hb : fn.body with
  | none => rw [hb] at h3; cases h3
  | some c => rfl

/-- The evaluator is sound. -/
theorem ev_ok (htt : TTok P tt) (hE : EnvOk P tt E) (hmix : P.follows .mixedOrders = true) : ∀ (m : Nat) (z : Nat → Bool), KOk P { iso := fun g ts => evF E m (z g) g ts, shr := E.shr, run := evR E m }
  | 0, _ => ⟨fun f ts r nb h => by simp [evF] at h, fun f args st n v st' n' h => by simp [evR] at h⟩
  | m + 1, z => by
    refine ⟨fun f ts r nb h => ?_, fun f args st n v st' n' h => ?_⟩
    · dsimp only at h
      unfold evF at h
      split at h
      · rename_i p hp
        exact frzR_ok (fun r nb hr => hE.prim f p hp ts r nb hr) h
      · split at h
        · cases h
        · rename_i sf hsf
          obtain ⟨fn, h1, h2, h3⟩ := hE.fn f sf hsf
          split at h
          · cases h
          · rename_i v st n' hev
            refine ⟨fnOk_of h1 h2 h3, fun M w vals hag hargs => ?_⟩
            have hI0 : Inv (fr0 w M) w M nob .leaf 0 w := ⟨hag, (fun id b hb => by simp [Tr.get_leaf] at hb), (fun id b p hb => by simp [Tr.get_leaf] at hb), (fun i j bi bj p q hb => by simp [Tr.get_leaf] at hb), (fun id p hp => by cases hp), Nat.le_refl _, Below.refl _ _, Nat.le_refl _, (fun q o hq => by cases hq), (fun b mc hb => .inl hb)⟩
            refine Calls.mono (body_ok htt (ev_ok htt hE hmix m _) hmix h1 h3 hev (fr0 w M) w M nob w vals (fun i hi => hi) hI0 hargs) fun e w' hR => ?_
            cases e with
            | returned val =>
              obtain ⟨M', β', hI', hv, hM, _⟩ := hR
              unfold finF at h
              split at h
              · split at h
                · rename_i t ht
                  obtain ⟨rfl, rfl⟩ : t = r ∧ [] = nb := by simpa using h
                  obtain ⟨M2, st2, k1, k2, k3⟩ := toR_ok hI' hv ht
                  exact ⟨M2, nob, ⟨k2.agree, (fun id b hb => by rw [stOf_get] at hb; cases hb), (fun id b p hb => by rw [stOf_get] at hb; cases hb), (fun i j bi bj p q hb => by rw [stOf_get] at hb; cases hb), (fun id p hp => by cases hp), Nat.zero_le _, k2.below, k2.base, k2.kept, k2.old⟩, k3, hM.trans k1⟩
                · cases h
              · split at h
                · rename_i r' hc
                  obtain ⟨rfl, rfl⟩ : r' = r ∧ [] = nb := by simpa using h
                  obtain ⟨M2, hM2, h5, h6⟩ := clo_ok hI' rfl hv hc
                  exact ⟨M2, nob, h5, h6, hM.trans hM2⟩
                · split at h
                  · cases h
                  · rename_i v' ids hx
                    obtain ⟨nb', h4, h5⟩ := map_some h
                    obtain ⟨rfl, rfl⟩ : v' = r ∧ nb' = nb := by simpa using h5
                    obtain ⟨β2, k1, k2⟩ := ext_ok hI' rfl hv hx h4
                    exact ⟨M', β2, k1, k2, hM⟩
            | panicked c => exact hR.elim
            | outgrown => exact hR.elim
    · dsimp only at h
      unfold evR at h
      split at h
      · cases h
      · rename_i sf hsf
        obtain ⟨fn, h1, h2, h3⟩ := hE.fn f sf hsf
        exact ⟨fnOk_of h1 h2 h3, fun B w0 M β w vals hB hI hargs => body_ok htt (ev_ok htt hE hmix m _) hmix h1 h3 h B w0 M β w vals hB hI hargs⟩
end
end Go.Proofs.Sg
