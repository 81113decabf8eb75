/- The frame, part X: the arguments' trees out of their readings. -/
import Derived.Test.YtcijgahloogooaaFrW
import GoSem.ClaimChange
namespace Go.Proofs.Sg
open Go.RowKit

/-- All blocks of cells, as they lie. -/
def snap (w : World) : Mem := fun b => match w.heap[b]? with
  | some (.cells c _ _) => some c.toList
  | _ => none

theorem snap_agree (w : World) : Agree (snap w) w := by
  intro b mc h
  unfold snap at h
  split at h
  · rename_i c t fr hc
    obtain rfl : c.toList = mc := by simpa using h
    exact ⟨c.toList, t, fr, by simpa using hc, List.prefix_refl _⟩
  · cases h

/-- Trees of a type's shape. -/
def Sh (P : Program) : Nat → TypeId → List T → Prop
  | 0, _, _ => False
  | f + 1, t, ts => match P.underlying t with
    | some .bool => ∃ b, ts = [.v (.bool b)]
    | some (.int k) => ∃ n, ts = [.v (.int k n)] ∧ (Lit.int k n).wf = true
    | some (.slice e) => ts = [.v (.slice none 0 0)] ∨ ∃ xs : List (List T), ts = [.sl xs.length xs.flatten] ∧ xs.length ≤ maxLen ∧ ∀ x ∈ xs, x.length = P.cellsOf e ∧ Sh P f e x
    | some (.struct fs) => ∃ xs : List (List T), ts = xs.flatten ∧ All2 (fun (g : Field) x => x.length = P.cellsOf g.type ∧ Sh P f g.type x) fs.toList xs
    | _ => False

def contig (P : Program) : Nat → List Field → Nat → Bool
  | k, [], n => k == n
  | k, g :: gs, n => g.offset == k && contig P (k + P.cellsOf g.type) gs n

def okT (P : Program) : Nat → TypeId → Bool
  | 0, _ => false
  | f + 1, t => match P.underlying t with
    | some .bool => true
    | some (.int _) => true
    | some (.slice e) => decide (0 < P.cellsOf e) && okT P f e
    | some (.struct fs) => contig P 0 fs.toList (P.cellsOf t) && fs.toList.all fun g => okT P f g.type
    | _ => false

theorem mapM_all2 {α γ : Type} {f : α → Option γ} : ∀ {l : List α} {ys : List γ}, l.mapM f = some ys → All2 (fun x y => f x = some y) l ys
  | [], ys, h => by
    obtain rfl : [] = ys := by simpa using h
    trivial
  | x :: l, ys, h => by
    rw [List.mapM_cons] at h
    cases hx : f x with
    | none => simp [hx] at h
    | some y =>
      cases hl : l.mapM f with
      | none => simp [hx, hl] at h
      | some zs =>
        obtain rfl : y :: zs = ys := by simpa [hx, hl] using h
        exact ⟨hx, mapM_all2 hl⟩

theorem cells_snap {w : World} {base : Nat} {a : Addr} {n : Nat} {vs : List Value} (h : w.cells? base a n = some vs) : vs.length = n ∧ ∀ j v, vs[j]? = some v → w.cell? (a.add j) = some v := by
  unfold World.cells? at h
  split at h
  · have h1 := mapM_all2 h
    have hl := h1.length
    simp at hl
    refine ⟨hl.symm, fun j v hj => ?_⟩
    have hjl : j < vs.length := (List.getElem?_eq_some_iff.1 hj).1
    obtain ⟨i, hi, he⟩ := All2.get h1 j v hj
    rw [List.getElem?_range (by omega)] at hi
    obtain rfl : j = i := by simpa using hi
    exact he
  · cases h

section
variable {H : Type} {enc : TypeId × Value → H} {P : Program} {w : World} {base : Nat} {spare : Nat → Bool} {held : Bool}

theorem parts_tree {k fuel : Nat} (ih : ∀ t cs d ps, okT P k t = true → DataW.trod enc P w base spare held fuel t cs = some (d, ps) → ∃ ts, All2 (RT (snap w)) cs ts ∧ Sh P k t ts) (cs : List Value) (n : Nat) :
    ∀ (fs : List Field) (off : Nat) (xs : List (DataW H × List MemPlace)), contig P off fs n = true → (fs.all fun g => okT P k g.type) = true → n = cs.length →
      All2 (fun (f : Field) x => DataW.trod enc P w base spare held fuel f.type ((cs.drop f.offset).take (P.cellsOf f.type)) = some x) fs xs → off ≤ n ∧ ∃ ys : List (List T), All2 (RT (snap w)) (cs.drop off) ys.flatten ∧ All2 (fun (g : Field) x => x.length = P.cellsOf g.type ∧ Sh P k g.type x) fs ys
  | [], off, xs, hc, _, hn, _ => by
    have : off = n := by simpa [contig] using hc
    subst this
    refine ⟨Nat.le_refl _, [], ?_, trivial⟩
    rw [hn, List.drop_length]
    trivial
  | f :: fs, off, [], _, _, _, hr => hr.elim
  | f :: fs, off, x :: xs, hc, ha, hn, hr => by
    simp only [contig, Bool.and_eq_true, beq_iff_eq] at hc
    simp only [List.all_cons, Bool.and_eq_true] at ha
    obtain ⟨hoff, hc⟩ := hc
    subst hoff
    obtain ⟨hle, ys, h1, h2⟩ := parts_tree ih cs n fs _ xs hc ha.2 hn hr.2
    obtain ⟨d, ps⟩ := x
    obtain ⟨ts, h3, h4⟩ := ih _ _ d ps ha.1 hr.1
    have hlen : ts.length = P.cellsOf f.type := by
      rw [← h3.length]; simp; omega
    refine ⟨by omega, ts :: ys, ?_, ⟨hlen, h4⟩, h2⟩
    rw [List.flatten_cons, ← List.take_append_drop (P.cellsOf f.type) (cs.drop f.offset), List.drop_drop]
    exact h3.append h1

theorem elems_tree {k fuel : Nat} (ih : ∀ t cs d ps, okT P k t = true → DataW.trod enc P w base spare held fuel t cs = some (d, ps) → ∃ ts, All2 (RT (snap w)) cs ts ∧ Sh P k t ts) {e : TypeId} (he : okT P k e = true) (b off : Nat) (full : List Value) (hfull : snap w b = some full) :
    ∀ (m i : Nat) (xs : List (DataW H × List MemPlace)), All2 (fun j x => (w.cells? base ((⟨b, off, none⟩ : Addr).add (j * P.cellsOf e)) (P.cellsOf e)).bind (DataW.trod enc P w base spare held fuel e) = some x) (List.range' i m) xs →
      ∃ ys : List (List T), ys.length = m ∧ RTs (snap w) (full.drop (off + i * P.cellsOf e)) ys.flatten ∧ ∀ y ∈ ys, y.length = P.cellsOf e ∧ Sh P k e y
  | 0, i, xs, _ => ⟨[], rfl, by simp only [List.flatten_nil]; unfold RTs; trivial, by simp⟩
  | m + 1, i, [], h => by rw [List.range'_succ] at h; exact h.elim
  | m + 1, i, x :: xs, h => by
    rw [List.range'_succ] at h
    obtain ⟨ys, h1, h2, h3⟩ := elems_tree ih he b off full hfull m (i + 1) xs h.2
    obtain ⟨d, ps⟩ := x
    cases hv : w.cells? base ((⟨b, off, none⟩ : Addr).add (i * P.cellsOf e)) (P.cellsOf e) with
    | none => have := h.1; simp [hv] at this
    | some vs =>
      have ht : DataW.trod enc P w base spare held fuel e vs = some (d, ps) := by have := h.1; simpa [hv] using this
      obtain ⟨ts, h4, h5⟩ := ih e vs d ps he ht
      obtain ⟨hvl, hvc⟩ := cells_snap hv
      have hlen : ts.length = P.cellsOf e := by rw [← h4.length, hvl]
      have hcut : full.drop (off + i * P.cellsOf e) = vs ++ full.drop (off + (i + 1) * P.cellsOf e) := by
        have hvs : vs = (full.drop (off + i * P.cellsOf e)).take (P.cellsOf e) := by
          apply List.ext_getElem?
          intro j
          rw [List.getElem?_take]
          split
          · rename_i hj
            have hj' : j < vs.length := by omega
            have h6 := hvc j vs[j] (List.getElem?_eq_getElem hj')
            rw [List.getElem?_eq_getElem hj', ← h6, Addr.add_mid', Addr.add_mid']
            unfold snap at hfull
            split at hfull
            · rename_i c t fr hcb
              obtain rfl : c.toList = full := by simpa using hfull
              simp [World.cell?, hcb]
            · cases hfull
          · exact List.getElem?_eq_none (by omega)
        rw [show off + (i + 1) * P.cellsOf e = off + i * P.cellsOf e + P.cellsOf e by rw [Nat.add_mul, Nat.one_mul]; omega, show full.drop (off + i * P.cellsOf e + P.cellsOf e) = (full.drop (off + i * P.cellsOf e)).drop (P.cellsOf e) by rw [List.drop_drop]]
        conv => rhs; rw [hvs]
        rw [List.take_append_drop]
      refine ⟨ts :: ys, by simp [h1], ?_, ?_⟩
      · rw [List.flatten_cons, hcut]
        exact RTs.app h4 h2
      · intro y hy
        rcases List.mem_cons.1 hy with rfl | hy
        · exact ⟨hlen, h5⟩
        · exact h3 y hy

theorem trod_tree : ∀ (k fuel : Nat) (t : TypeId) (cs : List Value) (d : DataW H) (ps : List MemPlace), okT P k t = true → DataW.trod enc P w base spare held fuel t cs = some (d, ps) → ∃ ts, All2 (RT (snap w)) cs ts ∧ Sh P k t ts
  | 0, _, _, _, _, _, h, _ => by cases h
  | _ + 1, 0, _, _, _, _, _, h => by cases h
  | k + 1, fuel + 1, t, cs, d, ps, hok, h => by
    unfold okT at hok
    unfold Sh
    cases hu : P.underlying t with
    | none => rw [hu] at hok; cases hok
    | some ds =>
      rw [hu] at hok
      unfold DataW.trod at h
      rw [hu] at h
      cases ds with
      | bool =>
        match cs, h with
        | [.bool b], _ =>
          refine ⟨[.v (.bool b)], ⟨?_, trivial⟩, b, rfl⟩
          unfold RT; exact ⟨rfl, rfl⟩
      | int q =>
        match cs, h with
        | [.int q' n], h =>
          dsimp only at h
          split at h
          · rename_i hc
            obtain ⟨rfl, hwf⟩ := hc
            refine ⟨[.v (.int q' n)], ⟨?_, trivial⟩, n, rfl, hwf⟩
            unfold RT; exact ⟨rfl, rfl⟩
          · cases h
      | slice e =>
        simp only [Bool.and_eq_true, decide_eq_true_eq] at hok
        match cs, h with
        | [.slice none 0 0], _ =>
          refine ⟨[.v (.slice none 0 0)], ⟨?_, trivial⟩, .inl rfl⟩
          unfold RT; exact ⟨rfl, rfl⟩
        | [.slice (some a) len cap], h =>
          dsimp only at h
          split at h
          · rename_i hc
            obtain ⟨_, hlc, hcm⟩ := hc
            cases hel : (List.range len).mapM fun i => (w.cells? base (a.add (i * P.cellsOf e)) (P.cellsOf e)).bind (DataW.trod enc P w base spare held fuel e) with
            | none => rw [hel] at h; cases h
            | some xs =>
              have hall := mapM_all2 hel
              by_cases hl0 : len = 0
              · subst hl0
                refine ⟨[.sl 0 []], ⟨?_, trivial⟩, .inr ⟨[], rfl, Nat.zero_le _, by simp⟩⟩
                unfold RT
                exact ⟨some a, cap, rfl, hlc, hcm, .inl ⟨rfl, rfl⟩⟩
              · obtain ⟨b, full, hb, hsp⟩ : ∃ b full, snap w b = some full ∧ a = ⟨b, a.off, none⟩ := by
                  obtain ⟨l', rfl⟩ : ∃ l', len = l' + 1 := ⟨len - 1, by omega⟩
                  rw [List.range_eq_range', List.range'_succ] at hall
                  match xs, hall with
                  | x :: xs, hall =>
                    have h0 : (w.cells? base (a.add (0 * P.cellsOf e)) (P.cellsOf e)).bind (DataW.trod enc P w base spare held fuel e) = some x := hall.1
                    cases hv : w.cells? base (a.add (0 * P.cellsOf e)) (P.cellsOf e) with
                    | none => rw [hv] at h0; cases h0
                    | some vs =>
                      obtain ⟨hvl, hvc⟩ := cells_snap hv
                      have hv0 : 0 < vs.length := by omega
                      have h1 := hvc 0 vs[0] (List.getElem?_eq_getElem hv0)
                      have e0 : (a.add (0 * P.cellsOf e)).add 0 = a := by simp [Addr.add]
                      rw [e0] at h1
                      unfold World.cell? at h1
                      split at h1
                      · rename_i c t' fr hcb
                        split at h1
                        · cases h1
                        · rename_i hsp
                          refine ⟨a.block, c.toList, by simp [snap, hcb], ?_⟩
                          obtain ⟨ab, ao, as⟩ := a
                          cases as with
                          | none => rfl
                          | some _ => simp at hsp
                      · cases h1
                obtain ⟨ys, y1, y2, y3⟩ := elems_tree (enc := enc) (base := base) (spare := spare) (held := held) (fun t cs d ps => trod_tree k fuel t cs d ps) hok.2 b a.off full hb len 0 xs (by rw [List.range_eq_range'] at hall; rw [← hsp]; exact hall)
                refine ⟨[.sl len ys.flatten], ⟨?_, trivial⟩, .inr ⟨ys, by rw [y1], by omega, y3⟩⟩
                unfold RT
                refine ⟨some a, cap, rfl, hlc, hcm, .inr ⟨b, a.off, full, by rw [← hsp], hb, ?_⟩⟩
                simpa using y2
          · cases h
      | struct fs =>
        simp only [Bool.and_eq_true] at hok
        dsimp only at h
        split at h
        · rename_i hcl
          cases hel : fs.toList.mapM fun f => DataW.trod enc P w base spare held fuel f.type ((cs.drop f.offset).take (P.cellsOf f.type)) with
          | none => rw [hel] at h; cases h
          | some xs =>
            obtain ⟨_, ys, y1, y2⟩ := parts_tree (fun t cs d ps => trod_tree k fuel t cs d ps) cs (P.cellsOf t) fs.toList 0 xs hok.1 hok.2 hcl.symm (mapM_all2 hel)
            exact ⟨ys.flatten, by simpa using y1, ys, rfl, y2⟩
        · cases h
      | _ => cases hok
end
end Go.Proofs.Sg
