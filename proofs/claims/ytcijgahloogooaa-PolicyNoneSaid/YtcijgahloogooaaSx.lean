/- slices.AppendSeq over slices.Values, as the frame asks. -/
import Derived.Test.YtcijgahloogooaaSv
import Derived.Test.YtcijgahloogooaaFrW
namespace Go.Proofs.Ytcijgahloogooaa
open Go Go.RowKit Go.Proofs.Sg

def u32sOf : List T → Option (List Int)
  | [] => some []
  | .v (.int .u32 z) :: r => (u32sOf r).map (z :: ·)
  | _ => none

def pAppendSeq : List V → Option (V × List Blk)
  | [.c (.t (.v (.slice none 0 0))), .c (.t (.fn 123 [.sl n cs]))] =>
    match u32sOf (cs.take n) with
    | some zs => if zs.length = n && room n 8 then (if n = 0 then some (V.p (.slice none 0 0), []) else some (.c (.own 0 1 0 n), [.arr 1 (cs.take n)])) else none
    | none => none
  | [.c (.t (.v (.slice none 0 0))), .c (.t (.fn 123 [.v (.slice none 0 0)]))] => some (V.p (.slice none 0 0), [])
  | _ => none

theorem u32sOf_ok : ∀ {cs : List T} {zs : List Int}, u32sOf cs = some zs → cs = zs.map fun z => T.v (.int .u32 z)
  | [], zs, h => by
    obtain rfl : [] = zs := by simpa [u32sOf] using h
    rfl
  | c :: r, zs, h => by
    unfold u32sOf at h
    split at h
    · rename_i heq; cases heq
    · rename_i z r' heq
      obtain ⟨rfl, rfl⟩ : c = .v (.int .u32 z) ∧ r = r' := by simpa using heq
      obtain ⟨ys, h1, h2⟩ := map_some h
      subst h2
      rw [u32sOf_ok h1]
      rfl
    · cases h

theorem RTs_ints {M : Mem} : ∀ {vs : List Value} {zs : List Int}, RTs M vs (zs.map fun z => T.v (.int .u32 z)) → ∀ j, j < zs.length → vs[j]? = some (.int .u32 (zs[j]?.getD 0))
  | _, [], _, j, hj => by simp at hj
  | [], _ :: _, h, _, _ => by
    simp only [List.map_cons] at h
    unfold RTs at h
    exact h.elim
  | v :: vs, z :: zs, h, j, hj => by
    simp only [List.map_cons] at h
    unfold RTs at h
    cases j with
    | zero =>
      have h1 := h.1
      unfold RT at h1
      simp [h1.1]
    | succ j => simpa using RTs_ints h.2 j (by simpa using hj)

theorem upto_all (zs : List Int) : upto (fun j => zs[j]?.getD 0) zs.length = zs := by
  apply List.ext_getElem
  · simp [upto]
  · intro i h1 h2
    simp [upto, h2]

theorem ok151 : FnOk Try.prog 151 := ⟨_, Try.func151, by kernel_rfl, by kernel_rfl⟩

/-- Behind the call. -/
theorem appendSeq_calls (M : Mem) (w : World) (hag : Agree M w) (zs : List Int) (hr8 : zs.length * 8 ≤ 35184372088832) (B : Nat) (mc : List Value) (sv : Value) (hB : M B = some (sv :: mc))
    (hsv : (∃ A cap, sv = .slice A 0 cap ∧ zs = []) ∨ ∃ b off cap, sv = .slice (some ⟨b, off, none⟩) zs.length cap ∧ (zs ≠ [] → ∃ mc', M b = some mc' ∧ ∀ j, j < zs.length → (mc'.drop off)[j]? = some (.int .u32 (zs[j]?.getD 0)))) :
    Calls Try.prog 151 #[.slice none 0 0, .func (.func 123) #[] #[.pointer (some ⟨B, 0, none⟩)]] w fun e w' => ∃ v : Value, e = .returned v ∧ w'.ownsRow w.heap.size 23 1 v zs.length (zs.map (Value.int .u32)) ∧ (v = .slice none 0 0 ↔ zs = []) ∧ Below w.heap.size w w' := by
  have hcell : ∀ (b off : Nat) (mc' : List Value) (j : Nat) (x : Value), M b = some mc' → (mc'.drop off)[j]? = some x → w.cell? ⟨b, off + j, none⟩ = some x := by
    intro b off mc' j x hb hx
    obtain ⟨full, ty, fr, hh, hpre⟩ := hag b mc' hb
    rw [cell_of_row w b _ _ ty fr hh]
    rw [List.getElem?_drop] at hx
    obtain ⟨t, rfl⟩ := hpre
    simp only [List.getElem?_toArray]
    rw [List.getElem?_append_left (List.getElem?_eq_some_iff.1 hx).1]
    exact hx
  have hlt : ∀ (b : Nat) (mc' : List Value), M b = some mc' → b < w.heap.size := fun b mc' hb => by
    obtain ⟨full, ty, fr, hh, _⟩ := hag b mc' hb
    exact (Array.getElem?_eq_some_iff.1 hh).1
  have hBc : w.cell? ⟨B, 0, none⟩ = some sv := by simpa using hcell B 0 _ 0 sv hB (by simp)
  rw [← callsIn_wide (n := 5)]
  refine (appendSeq_in Fence.wide 5 trivial rfl (by omega) 123 #[.pointer (some ⟨B, 0, none⟩)] trivial (fun args w => run_callFunc ⟨_, Try.func123, by kernel_rfl, by kernel_rfl⟩ args) (fun ys => ys = zs) zs.length (by unfold maxLen; omega) (by omega) w ?_).mono ?_
  · intro l J W hJB hY h0
    have hBW : W.cell? ⟨B, 0, none⟩ = some sv := ((hJB _ _ h0).cell (p := ⟨B, 0, none⟩) (hlt _ _ hB)).trans hBc
    rcases hsv with ⟨A, cap, rfl, rfl⟩ | ⟨b, off, cap, rfl, hcs⟩
    · exact (values1_nil_in Fence.wide 4 trivial rfl l B J W A cap hBW h0).mono fun e W' h => ⟨h.1, [], rfl, h.2⟩
    · by_cases hz : zs = []
      · subst hz
        exact (values1_in Fence.wide 4 trivial rfl (by omega) l B w.heap.size b off 0 cap [] (Nat.zero_le _) J (fun pre x W1 _ hl => absurd hl (by simp)) w hJB W hBW (fun h => absurd h (by omega)) (fun j hj => absurd hj (by omega)) h0).mono fun e W' h => ⟨h.1, [], rfl, by simpa [upto] using h.2⟩
      · obtain ⟨mc', hb, hj⟩ := hcs hz
        refine (values1_in Fence.wide 4 trivial rfl (by omega) l B w.heap.size b off zs.length cap zs (by omega) J (fun pre x W1 hJ hl => hY pre x W1 hJ hl) w hJB W hBW (fun _ => hlt _ _ hb) (fun j hj' => hcell b off mc' j _ hb (hj j hj')) h0).mono fun e W' h => ⟨h.1, zs, rfl, ?_⟩
        rw [← upto_all zs]
        exact h.2
  · rintro e w' ⟨v, ss, rfl, rfl, h1, h2, h3⟩
    exact ⟨v, rfl, h1, h2, h3⟩

theorem RTs_of_take {M : Mem} : ∀ {vs : List Value} {zs : List Int}, vs.take zs.length = zs.map (Value.int .u32) → RTs M vs (zs.map fun z => T.v (.int .u32 z))
  | _, [], _ => by simp only [List.map_nil]; unfold RTs; trivial
  | [], _ :: _, h => by simp at h
  | v :: vs, z :: zs, h => by
    simp only [List.length_cons, List.take_succ_cons, List.map_cons, List.cons.injEq] at h
    simp only [List.map_cons]
    unfold RTs
    refine ⟨?_, RTs_of_take h.2⟩
    unfold RT
    exact ⟨h.1, rfl⟩

theorem agree_below {M : Mem} {w w' : World} (h : Agree M w) (hb : Below w.heap.size w w') : Agree M w' := fun b mc hm => by
  obtain ⟨full, ty, fr, hh, hp⟩ := h b mc hm
  exact ⟨full, ty, fr, by rw [hb.block b (Array.getElem?_eq_some_iff.1 hh).1]; exact hh, hp⟩

theorem inv_none {M : Mem} {w w' : World} (h : Agree M w) (hb : Below w.heap.size w w') : Inv (fr0 w M) w M nob (stOf []) 0 w' :=
  ⟨agree_below h hb, (fun id b hb => by rw [stOf_get] at hb; cases hb), (fun id b p hb => by rw [stOf_get] at hb; cases hb), (fun i j bi bj p q hb => by rw [stOf_get] at hb; cases hb), (fun id p hp => by cases hp), Nat.le_refl _, hb, Nat.le_refl _, (fun q o hq => by cases hq), (fun b mc hb => .inl hb)⟩

theorem inv_one {M : Mem} {w w' : World} (h : Agree M w) (hb : Below w.heap.size w w') {g tot e : Nat} {cs : List T} {full : List Value} {ty : TypeId} (hg : w.heap.size ≤ g) (hh : w'.heap[g]? = some (.cells full.toArray ty (0, 0))) (hl : full.length = tot) (hcs : RTs M full cs) :
    Inv (fr0 w M) w M (fun i => if i = 0 then some (g, tot) else none) (stOf [.arr e cs]) 1 w' := by
  have hget : ∀ i b, (stOf [Blk.arr e cs]).get i = some b → i = 0 ∧ b = .arr e cs := fun i b hb => by
    rw [stOf_get] at hb
    cases i with
    | zero => exact ⟨rfl, by simpa using hb.symm⟩
    | succ i => simp at hb
  have hMg : M g = none := by
    cases hm : M g with
    | none => rfl
    | some mc =>
      obtain ⟨_, _, _, h1, _⟩ := h g mc hm
      have := (Array.getElem?_eq_some_iff.1 h1).1
      omega
  refine ⟨agree_below h hb, ?_, ?_, ?_, ?_, Nat.zero_le _, hb, Nat.le_refl _, (fun q o hq => by cases hq), (fun b mc hb => .inl hb)⟩
  · intro id b hb
    obtain ⟨rfl, rfl⟩ := hget id b hb
    exact ⟨(g, tot), by simp, full, ty, hh, hl, hcs⟩
  · intro id b p hb hl hp
    obtain ⟨rfl, rfl⟩ := hget id b hb
    obtain rfl : (g, tot) = p := by simpa using hp
    exact ⟨hMg, hg, rfl⟩
  · intro i j bi bj p q hi hj _ _ _ _ hne
    exact absurd ((hget i bi hi).1.trans (hget j bj hj).1.symm) hne
  · intro id p hp
    by_cases h0 : id = 0
    · subst h0; exact .inl ⟨Nat.le_refl _, by omega⟩
    · simp [h0] at hp

theorem iso151 (ts : List V) (r : V) (nb : List Blk) (h : pAppendSeq ts = some (r, nb)) : Iso Try.prog 151 ts r nb := by
  unfold pAppendSeq at h
  split at h
  · rename_i n cs
    split at h
    · rename_i zs hzs
      split at h
      · rename_i hc
        simp only [Bool.and_eq_true, decide_eq_true_eq, room] at hc
        obtain ⟨hlen, hroom⟩ := hc
        have hcz := u32sOf_ok hzs
        refine ⟨ok151, fun M w vals hag hargs => ?_⟩
        match vals, hargs with
        | [v0, v1], hargs =>
          have e0 := (rv_v hargs.1).1
          have h1 : RT M v1 (.fn 123 [.sl n cs]) := hargs.2.1
          unfold RT at h1
          obtain ⟨ptrs, e1, hps⟩ := h1
          match ptrs, hps with
          | [p], hps =>
            unfold RPs at hps
            obtain ⟨⟨b, x, mc, ep, hm, hx⟩, _⟩ := hps
            unfold RT at hx
            obtain ⟨A, cap, hx1, hxc, hcm, hcs⟩ := hx
            subst e0 e1 ep
            refine Calls.mono (appendSeq_calls M w hag zs (by omega) b mc x hm ?_) fun e w' hR => ?_
            · rcases hcs with ⟨rfl, _⟩ | ⟨b2, off, mc2, rfl, hm2, hs2⟩
              · have hz0 : zs = [] := by
                  simp at hcz
                  exact hcz
                subst hz0
                cases hlen
                exact .inl ⟨A, cap, hx1, rfl⟩
              · right
                refine ⟨b2, off, cap, by rw [hx1, hlen], fun _ => ⟨mc2, hm2, ?_⟩⟩
                exact RTs_ints (by rw [← hcz]; exact hs2.take n)
            · obtain ⟨v, rfl, hrow, hnil, hb⟩ := hR
              split at h
              · rename_i hn0
                obtain ⟨rfl, rfl⟩ : V.p (.slice none 0 0) = r ∧ [] = nb := by simpa using h
                have hz0 : zs = [] := List.length_eq_zero_iff.1 (by omega)
                exact ⟨M, nob, inv_none hag hb, by rw [hnil.2 hz0]; exact rv_mk rfl, Mle.refl _⟩
              · rename_i hn0
                obtain ⟨rfl, rfl⟩ : V.c (.own 0 1 0 n) = r ∧ [Blk.arr 1 (cs.take n)] = nb := by simpa using h
                rcases hrow.2 with ⟨_, hh0⟩ | ⟨g, cp, cur, rfl, hg, hh, hle, hmx, hsz, htk⟩
                · omega
                · refine ⟨M, _, inv_one (full := cur.toList) hag hb hg (by simpa using hh) rfl (by rw [hcz]; exact RTs_of_take (by simpa using htk)), ?_, Mle.refl _⟩
                  exact ⟨(g, cur.toList.length), cp, by simp, by rw [hlen], by omega, hmx, by simp [hsz]⟩
      · cases h
    · cases h
  · obtain ⟨rfl, rfl⟩ : V.p (.slice none 0 0) = r ∧ [] = nb := by simpa using h
    refine ⟨ok151, fun M w vals hag hargs => ?_⟩
    match vals, hargs with
    | [v0, v1], hargs =>
      have e0 := (rv_v hargs.1).1
      have h1 : RT M v1 (.fn 123 [.v (.slice none 0 0)]) := hargs.2.1
      unfold RT at h1
      obtain ⟨ptrs, e1, hps⟩ := h1
      match ptrs, hps with
      | [p], hps =>
        unfold RPs at hps
        obtain ⟨⟨b, x, mc, ep, hm, hx⟩, _⟩ := hps
        unfold RT at hx
        subst e0 e1 ep
        refine Calls.mono (appendSeq_calls M w hag [] (by simp) b mc x hm (.inl ⟨none, 0, hx.1, rfl⟩)) fun e w' hR => ?_
        obtain ⟨v, rfl, _, hnil, hb⟩ := hR
        exact ⟨M, nob, inv_none hag hb, by rw [hnil.2 rfl]; exact rv_mk rfl, Mle.refl _⟩
  · cases h
end Go.Proofs.Ytcijgahloogooaa
