/- The frame, part R: an operation answers by its operands and by the blocks they lead to. -/
import Derived.Test.YtcijgahloogooaaFrQ
namespace Go.Proofs.Sg
open Go.RowKit

section
variable {lk lk' : Look}

theorem arrOf_congr {id : Nat} (h : lk' id = lk id) : arrOf lk' id = arrOf lk id := by unfold arrOf; rw [h]

theorem toT_congr {c : C} (h : ∀ id ∈ c.ids, lk' id = lk id) : toT lk' c = toT lk c := by
  cases c with
  | own id e off len => simp only [toT, arrOf_congr (h id (by simp [C.ids]))]
  | clo f caps =>
    match caps, h with
    | [], _ => rfl
    | [(id, 0)], h => simp only [toT, h id (by simp [C.ids])]
    | [(id, k + 1)], _ => simp [toT]
    | (_, 0) :: _ :: _, _ => simp [toT]
    | (_, k + 1) :: _ :: _, _ => simp [toT]
  | _ => rfl

theorem toTs_congr : ∀ {cs : List C}, (∀ id ∈ cs.flatMap C.ids, lk' id = lk id) → toTs lk' cs = toTs lk cs
  | [], _ => rfl
  | c :: cs, h => by
    simp only [toTs]
    rw [toT_congr fun id hi => h id (by simp only [List.flatMap_cons, List.mem_append]; exact .inl hi), toTs_congr fun id hi => h id (by simp only [List.flatMap_cons, List.mem_append]; exact .inr hi)]

theorem toV_congr {v : V} (h : ∀ id ∈ v.ids, lk' id = lk id) : toV lk' v = toV lk v := by
  cases v with
  | c x => simp only [toV, toT_congr h]
  | agg cs => simp only [toV, toTs_congr h]
  | tup _ => rfl

theorem toVs_congr : ∀ {vs : List V}, (∀ v ∈ vs, ∀ id ∈ v.ids, lk' id = lk id) → toVs lk' vs = toVs lk vs
  | [], _ => rfl
  | v :: vs, h => by
    simp only [toVs]
    rw [toV_congr (h v (by simp)), toVs_congr fun v hv => h v (by simp [hv])]

theorem srcOf_congr {e : Nat} {v : V} (h : ∀ id ∈ v.ids, lk' id = lk id) : srcOf lk' e v = srcOf lk e v := by
  cases v with
  | c x => cases x with
    | own id e' off len => simp only [srcOf, arrOf_congr (h id (by simp [V.ids, C.ids]))]
    | t x => cases x with
      | v x => cases x with
        | slice A n c => cases A <;> cases n <;> cases c <;> rfl
        | _ => rfl
      | _ => rfl
    | _ => rfl
  | _ => rfl

theorem mem_ids {v : V} {cs : List C} (h : v.mem = some cs) : cs.flatMap C.ids = v.ids := by
  cases v with
  | c x =>
    simp only [V.mem] at h
    split at h
    · obtain rfl : [x] = cs := by simpa using h
      simp [V.ids]
    · cases h
  | agg xs =>
    simp only [V.mem] at h
    split at h
    · obtain rfl : xs = cs := by simpa using h
      rfl
    · cases h
  | tup _ => cases h

theorem ids_sub {cs ds : List C} (h : ∀ c ∈ cs, c ∈ ds) : ∀ id ∈ cs.flatMap C.ids, id ∈ ds.flatMap C.ids := by
  intro id hi
  obtain ⟨c, hc, hi⟩ := List.mem_flatMap.1 hi
  exact List.mem_flatMap.2 ⟨c, h c hc, hi⟩

theorem fillC_ids : ∀ (ps : List (Nat × Nat × V)) (cs cs' : List C), fillC cs ps = some cs' → ∀ id ∈ cs'.flatMap C.ids, id ∈ cs.flatMap C.ids ∨ ∃ p ∈ ps, id ∈ p.2.2.ids
  | [], cs, cs', h, id, hi => by
    obtain rfl : cs = cs' := by simpa [fillC] using h
    exact .inl hi
  | (off, m, v) :: ps, cs, cs', h, id, hi => by
    simp only [fillC] at h
    split at h
    · rename_i vs hv
      split at h
      · rcases fillC_ids ps _ cs' h id hi with h1 | ⟨p, hp, h1⟩
        · simp only [List.flatMap_append, List.mem_append] at h1
          rcases h1 with (h1 | h1) | h1
          · exact .inl (ids_sub (fun c hc => List.mem_of_mem_take hc) id h1)
          · exact .inr ⟨_, List.mem_cons_self, by rw [← mem_ids hv]; exact h1⟩
          · exact .inl (ids_sub (fun c hc => List.mem_of_mem_drop hc) id h1)
        · exact .inr ⟨p, List.mem_cons_of_mem _ hp, h1⟩
      · cases h
    · cases h

theorem shaped_ids {agg : Bool} {n : Nat} {v : V} {cs : List C} (h : shaped agg n v = some cs) : cs.flatMap C.ids = v.ids := by
  unfold shaped at h
  split at h
  · split at h
    · split at h
      · obtain rfl : _ = cs := by simpa using h
        rfl
      · cases h
    · cases h
  · split at h
    · split at h
      · obtain rfl : _ = cs := by simpa using h
        simp [V.ids]
      · cases h
    · cases h

theorem p_ids (z : List Value) : (z.map C.p).flatMap C.ids = [] := by
  induction z with
  | nil => rfl
  | cons x z ih => simp [C.ids]

theorem rep_ids (z : List Value) (n : Nat) : ((List.replicate n (z.map C.p)).flatten).flatMap C.ids = [] := by
  induction n with
  | zero => rfl
  | succ n ih => simp only [List.replicate_succ, List.flatten_cons, List.flatMap_append, ih, p_ids, List.append_nil]

theorem bnd_congr {rd rd' : Opd → V} {d : Int} {o : Option Opd} (h : ∀ x ∈ o.toList, rd' x = rd x) : bnd rd' d o = bnd rd d o := by
  cases o with
  | none => rfl
  | some x => simp only [bnd, h x (by simp)]

theorem evIns_congr {rd rd' : Opd → V} {k : Nat} {ins : Ins} (h1 : ∀ x ∈ ins.opds, rd' x = rd x) (h2 : ins.reads = true → ∀ x ∈ ins.opds, ∀ id ∈ (rd x).ids, lk' id = lk id) : evIns lk' k rd' ins = evIns lk k rd ins := by
  cases ins with
  | mov x => simp only [evIns, h1 x (by simp [Ins.opds])]
  | pick c x y => simp only [evIns, h1 c (by simp [Ins.opds]), h1 x (by simp [Ins.opds]), h1 y (by simp [Ins.opds])]
  | alloc z => rfl
  | box x => simp only [evIns, h1 x (by simp [Ins.opds])]
  | build z ps =>
    have : (ps.map fun p => (p.1, p.2.1, rd' p.2.2)) = ps.map fun p => (p.1, p.2.1, rd p.2.2) := List.map_congr_left fun p hp => by rw [h1 p.2.2 (List.mem_map.2 ⟨p, hp, rfl⟩)]
    simp only [evIns, this]
  | bsl e z n ps =>
    have : (ps.map fun p => (p.1 * e, e, rd' p.2)) = ps.map fun p => (p.1 * e, e, rd p.2) := List.map_congr_left fun p hp => by rw [h1 p.2 (List.mem_map.2 ⟨p, hp, rfl⟩)]
    simp only [evIns, this]
    split
    · rename_i cs hcs
      rw [toTs_congr fun id hi => ?_]
      rcases fillC_ids _ _ _ hcs id hi with h | ⟨p, hp, h⟩
      · rw [rep_ids] at h; cases h
      · obtain ⟨q, hq, rfl⟩ := List.mem_map.1 hp
        exact h2 rfl q.2 (List.mem_map.2 ⟨q, hq, rfl⟩) id h
    · rfl
  | load n agg x =>
    have e := h1 x (by simp [Ins.opds])
    have h := h2 rfl x (by simp [Ins.opds])
    simp only [evIns, e]
    split
    · rename_i id off hx
      rw [h id (by rw [hx]; simp [V.ids, C.ids])]
    · rfl
    · rfl
  | store n x y =>
    have e := h1 x (by simp [Ins.opds])
    have e' := h1 y (by simp [Ins.opds])
    have h := h2 rfl x (by simp [Ins.opds])
    have h' := h2 rfl y (by simp [Ins.opds])
    simp only [evIns, e, e']
    split
    · rename_i id off hx
      split
      · rename_i cs hy
        rw [h id (by rw [hx]; simp [V.ids, C.ids]), toTs_congr fun id hi => h' id (by rw [← mem_ids hy]; exact hi)]
      · rfl
    · rfl
  | bin o x y => simp only [evIns, h1 x (by simp [Ins.opds]), h1 y (by simp [Ins.opds])]
  | beq g x y => simp only [evIns, h1 x (by simp [Ins.opds]), h1 y (by simp [Ins.opds])]
  | nileq p g x y => simp only [evIns, h1 x (by simp [Ins.opds]), h1 y (by simp [Ins.opds])]
  | eqs n g x y => simp only [evIns, h1 x (by simp [Ins.opds]), h1 y (by simp [Ins.opds])]
  | un o x => simp only [evIns, h1 x (by simp [Ins.opds])]
  | conv c x =>
    have e := h1 x (by simp [Ins.opds])
    cases c with
    | str => simp only [evIns, e, srcOf_congr (h2 rfl x (by simp [Ins.opds]))]
    | _ => simp only [evIns, e]
  | mkfn f caps => simp only [evIns, List.map_congr_left (fun x hx => h1 x hx : ∀ x ∈ caps, rd' x = rd x)]
  | mkmap a b => rfl
  | mksl e b z x y => simp only [evIns, h1 x (by simp [Ins.opds]), h1 y (by simp [Ins.opds])]
  | slc e x lo hi =>
    have e1 := h1 x (by simp [Ins.opds])
    simp only [evIns, e1]
    split
    · rfl
    · rename_i n _
      rw [bnd_congr fun y hy => h1 y (by simp only [Ins.opds, List.mem_cons, List.mem_append]; exact .inr (.inl hy)), bnd_congr fun y hy => h1 y (by simp only [Ins.opds, List.mem_cons, List.mem_append]; exact .inr (.inr hy))]
  | fld o x => simp only [evIns, h1 x (by simp [Ins.opds])]
  | getf o n a x => simp only [evIns, h1 x (by simp [Ins.opds])]
  | idx e x y => simp only [evIns, h1 x (by simp [Ins.opds]), h1 y (by simp [Ins.opds])]
  | idxA n e x y => simp only [evIns, h1 x (by simp [Ins.opds]), h1 y (by simp [Ins.opds])]
  | at_ n e a x y => simp only [evIns, h1 x (by simp [Ins.opds]), h1 y (by simp [Ins.opds])]
  | ats x y => simp only [evIns, h1 x (by simp [Ins.opds]), h1 y (by simp [Ins.opds])]
  | ext x i => simp only [evIns, h1 x (by simp [Ins.opds])]
  | len s x => simp only [evIns, h1 x (by simp [Ins.opds])]
  | app e b x y =>
    have e1 := h1 x (by simp [Ins.opds])
    have e2 := h1 y (by simp [Ins.opds])
    have h := h2 rfl x (by simp [Ins.opds])
    simp only [evIns, e1, e2, srcOf_congr (h2 rfl y (by simp [Ins.opds]))]
    split
    · rfl
    · split
      · rfl
      · split
        · rfl
        · rename_i id e' len hx
          rw [h id (by rw [hx]; simp [V.ids, C.ids])]
        · rfl
  | copy e x y =>
    have e1 := h1 x (by simp [Ins.opds])
    have e2 := h1 y (by simp [Ins.opds])
    have h := h2 rfl x (by simp [Ins.opds])
    simp only [evIns, e1, e2, srcOf_congr (h2 rfl y (by simp [Ins.opds]))]
    split
    · rename_i id e' off len hx
      rw [h id (by rw [hx]; simp [V.ids, C.ids])]
    · rfl
  | clear e z x =>
    have e1 := h1 x (by simp [Ins.opds])
    have h := h2 rfl x (by simp [Ins.opds])
    simp only [evIns, e1]
    split
    · rename_i id e' off len hx
      rw [h id (by rw [hx]; simp [V.ids, C.ids])]
    · rfl
  | mlen x =>
    have e1 := h1 x (by simp [Ins.opds])
    have h := h2 rfl x (by simp [Ins.opds])
    simp only [evIns, e1]
    split
    · rename_i id hx
      rw [h id (by rw [hx]; simp [V.ids, C.ids])]
    · rfl
  | look n z ok x y =>
    have e1 := h1 x (by simp [Ins.opds])
    have e2 := h1 y (by simp [Ins.opds])
    have h := h2 rfl x (by simp [Ins.opds])
    simp only [evIns, e1, e2]
    split
    · rename_i id hx
      rw [h id (by rw [hx]; simp [V.ids, C.ids])]
    · rfl
  | upd n m x y z =>
    have e1 := h1 x (by simp [Ins.opds])
    have e2 := h1 y (by simp [Ins.opds])
    have e3 := h1 z (by simp [Ins.opds])
    have h := h2 rfl x (by simp [Ins.opds])
    have h' := h2 rfl z (by simp [Ins.opds])
    simp only [evIns, e1, e2, e3]
    split
    · rename_i id hx
      rw [h id (by rw [hx]; simp [V.ids, C.ids])]
      split
      · split
        · rename_i hks hxc
          rw [toTs_congr fun id hi => h' id (by rw [← shaped_ids hxc]; exact hi)]
        · rfl
      · rfl
    · rfl
  | del n x y =>
    have e1 := h1 x (by simp [Ins.opds])
    have e2 := h1 y (by simp [Ins.opds])
    have h := h2 rfl x (by simp [Ins.opds])
    simp only [evIns, e1, e2]
    split
    · rename_i id hx
      rw [h id (by rw [hx]; simp [V.ids, C.ids])]
    · rfl
  | mm mx x y => simp only [evIns, h1 x (by simp [Ins.opds]), h1 y (by simp [Ins.opds])]
  | nilc x => simp only [evIns, h1 x (by simp [Ins.opds])]
  | call f xs => rfl
  | callv x xs => rfl

theorem evOpU_congr {kk : K} {s s' : S} {ins : Ins} (hn : s'.n = s.n) (h1 : ∀ x ∈ ins.opds, s'.rd x = s.rd x) (h2 : ins.reads = true → ∀ x ∈ ins.opds, ∀ id ∈ (s.rd x).ids, s'.st.get id = s.st.get id) : evOpU kk s' ins = evOpU kk s ins := by
  cases ins with
  | call f xs =>
    have e1 : xs.map s'.rd = xs.map s.rd := List.map_congr_left fun x hx => h1 x hx
    simp only [evOpU, evCall, hn, e1]
    rw [toVs_congr (lk' := s'.st.get) (lk := s.st.get) (vs := xs.map s.rd)]
    intro v hv id hi
    obtain ⟨x, hx, rfl⟩ := List.mem_map.1 hv
    exact h2 rfl x hx id hi
  | callv x xs => rfl
  | _ => simp only [evOpU, hn]; exact evIns_congr h1 h2
end
end Go.Proofs.Sg
