/- The frame, part N: every operation that calls nothing does what the evaluator says. -/
import Derived.Test.YtcijgahloogooaaFrM
namespace Go.Proofs.Sg
open Go.RowKit

/-- What the frame has proved so far. -/
def easy : Ins → Bool
  | .eqs _ _ _ _ | .mlen _ | .look _ _ _ _ _ | .upd _ _ _ _ _ | .del _ _ _ | .call _ _ | .callv _ _ => false
  | _ => true

theorem map_some {α γ : Type} {x : Option α} {f : α → γ} {r : γ} (h : x.map f = some r) : ∃ y, x = some y ∧ f y = r := by
  cases x with
  | none => cases h
  | some y => exact ⟨y, rfl, by simpa using h⟩

section
variable {P : Program} {tt : TT} {B : Fr} {w0 w : World} {M : Mem} {β : Bet} {st : Tr Blk} {n n' : Nat} {v : V} {u : List (Nat × Blk)} {o : Oper} {a : Act} {rd : Opd → V} {ins : Ins}

theorem ins_bin (htt : TTok P tt) (hI : Inv B w0 M β st n w) (hrd : RD M β a rd) {b : BinOp} {t ty : TypeId} {x y : Operand} (hop : o.op = .binOp b t x y ty) (hs : slimI tt (.binOp b t x y ty) = some ins) (hz : easy ins = true)
    (he : evIns st.get n rd ins = some (v, u, n')) : OpStep P B w0 M β (putAll st u) n' v o a w := by
  simp only [slimI] at hs
  split at hs
  · rename_i d x' y' h1 h2 h3
    split at hs
    · split at hs
      · obtain rfl : _ = ins := by simpa using hs
        cases hz
      · cases hs
    · split at hs
      · obtain rfl : _ = ins := by simpa using hs
        cases hz
      · cases hs
    · obtain rfl : _ = ins := by simpa using hs
      exact op_bin hI hrd hop h2 h3 he
    · cases hs
    · cases hs
    · obtain rfl : _ = ins := by simpa using hs
      exact op_bin hI hrd hop h2 h3 he
    · rename_i hd
      obtain rfl : _ = ins := by simpa using hs
      exact op_beq (neg := false) htt hI hrd hop h1 hd h2 h3 he
    · rename_i hd
      obtain rfl : _ = ins := by simpa using hs
      exact op_beq (neg := true) htt hI hrd hop h1 hd h2 h3 he
    · rename_i e hd
      obtain rfl : _ = ins := by simpa using hs
      exact op_nileq (ptr := false) (neg := false) htt hI hrd hop h1 ⟨e, hd⟩ h2 h3 he
    · rename_i e hd
      obtain rfl : _ = ins := by simpa using hs
      exact op_nileq (ptr := false) (neg := true) htt hI hrd hop h1 ⟨e, hd⟩ h2 h3 he
    · rename_i e hd
      obtain rfl : _ = ins := by simpa using hs
      exact op_nileq (ptr := true) (neg := false) htt hI hrd hop h1 ⟨e, hd⟩ h2 h3 he
    · rename_i e hd
      obtain rfl : _ = ins := by simpa using hs
      exact op_nileq (ptr := true) (neg := true) htt hI hrd hop h1 ⟨e, hd⟩ h2 h3 he
    · cases hs
  · cases hs

theorem ins_call (htt : TTok P tt) (hI : Inv B w0 M β st n w) (hn : ∀ id, n ≤ id → id < n' → ¬ B.hi id) (hrd : RD M β a rd) {c : Call} (hop : o.op = .call c) (hs : slimI tt (.call c) = some ins) (hz : easy ins = true)
    (he : evIns st.get n rd ins = some (v, u, n')) : OpStep P B w0 M β (putAll st u) n' v o a w := by
  simp only [slimI] at hs
  split at hs
  · obtain ⟨y, hy, rfl⟩ := map_some hs
    cases hz
  · split at hs
    · obtain rfl : _ = ins := by simpa using hs
      cases hz
    · cases hs
  · rename_i b hc
    split at hs
    · -- len
      rename_i t ts x hts hxs
      split at hs
      · rename_i d x' h1 h2
        split at hs
        · rename_i e hd
          obtain rfl : _ = ins := by simpa using hs
          exact op_len (str := false) htt hI hrd hop hc hts hxs h1 ⟨e, hd⟩ h2 he
        · rename_i hd
          obtain rfl : _ = ins := by simpa using hs
          exact op_len (str := true) htt hI hrd hop hc hts hxs h1 hd h2 he
        · obtain rfl : _ = ins := by simpa using hs
          cases hz
        · cases hs
      · cases hs
    · -- append
      rename_i t t' x y hts hxs
      split at hs
      · rename_i d d' x' y' h1 h2 h3 h4
        split at hs
        · rename_i e e' hd hd'
          split at hs
          · rename_i de hde
            split at hs
            · rename_i z hz'
              split at hs
              · rename_i hcnd
                simp only [Bool.and_eq_true, decide_eq_true_eq] at hcnd
                obtain ⟨⟨h0, hb0⟩, rfl⟩ := hcnd
                obtain rfl : _ = ins := by simpa using hs
                exact op_app htt hI hn hrd hop hc hts hxs h1 hd hde hz' h0 hb0 h3 h4 he
              · cases hs
            · cases hs
          · cases hs
        · cases hs
      · cases hs
    · -- copy
      rename_i t t' x y hts hxs
      split at hs
      · rename_i d d' x' y' h1 h2 h3 h4
        split at hs
        · rename_i e e' hd hd'
          split at hs
          · rename_i de hde
            split at hs
            · rename_i h0
              obtain rfl : _ = ins := by simpa using hs
              exact op_copy htt hI hrd hop hc hts hxs h1 hd hde h0 h3 h4 he
            · cases hs
          · cases hs
        · cases hs
      · cases hs
    · -- clear
      rename_i t x hts hxs
      split at hs
      · rename_i d x' h1 h2
        split at hs
        · rename_i e hd
          split at hs
          · rename_i de hde
            split at hs
            · rename_i z hz'
              split at hs
              · rename_i h0
                obtain rfl : _ = ins := by simpa using hs
                exact op_clear htt hI hrd hop hc hts hxs h1 hd hde hz' h0 h2 he
              · cases hs
            · cases hs
          · cases hs
        · cases hs
      · cases hs
    · -- delete
      split at hs
      · split at hs
        · split at hs
          · split at hs
            · obtain rfl : _ = ins := by simpa using hs
              cases hz
            · cases hs
          · cases hs
        · cases hs
      · cases hs
    · rename_i x y hxs
      split at hs
      · rename_i x' y' h1 h2
        obtain rfl : _ = ins := by simpa using hs
        exact op_mm (mx := true) hI hrd hop hc hxs h1 h2 he
      · cases hs
    · rename_i x y hxs
      split at hs
      · rename_i x' y' h1 h2
        obtain rfl : _ = ins := by simpa using hs
        exact op_mm (mx := false) hI hrd hop hc hxs h1 h2 he
      · cases hs
    · cases hs
  · cases hs

theorem ins_ok (htt : TTok P tt) (hI : Inv B w0 M β st n w) (hn : ∀ id, n ≤ id → id < n' → ¬ B.hi id) (hrd : RD M β a rd) (hs : slimI tt o.op = some ins) (hz : easy ins = true)
    (he : evIns st.get n rd ins = some (v, u, n')) : OpStep P B w0 M β (putAll st u) n' v o a w := by
  cases hop : o.op with
  | move x =>
    rw [hop] at hs
    obtain ⟨y, hy, rfl⟩ := map_some hs
    obtain ⟨rfl, rfl, rfl⟩ : rd y = v ∧ [] = u ∧ n = n' := by simpa [evIns] using he
    exact op_mov hI hrd (.inl hop) hy
  | assign x =>
    rw [hop] at hs
    obtain ⟨y, hy, rfl⟩ := map_some hs
    obtain ⟨rfl, rfl, rfl⟩ : rd y = v ∧ [] = u ∧ n = n' := by simpa [evIns] using he
    exact op_mov hI hrd (.inr hop) hy
  | pick c x y =>
    rw [hop] at hs
    simp only [slimI] at hs
    split at hs
    · rename_i c' x' y' h1 h2 h3
      obtain rfl : _ = ins := by simpa using hs
      simp only [evIns] at he
      split at he
      · rename_i t ht
        obtain ⟨rfl, rfl, rfl⟩ : (if t then rd x' else rd y') = v ∧ [] = u ∧ n = n' := by simpa using he
        exact op_pick hI hrd hop h1 h2 h3 ht
      · cases he
    · cases hs
  | alloc t =>
    rw [hop] at hs
    simp only [slimI] at hs
    split at hs
    · rename_i d hd
      obtain ⟨z, hzz, rfl⟩ := map_some hs
      obtain ⟨rfl, rfl, rfl⟩ : V.c (.ptr n 0) = v ∧ [(n, Blk.box (z.map C.p))] = u ∧ n + 1 = n' := by simpa [evIns] using he
      exact op_alloc htt hI (hn n (Nat.le_refl _) (Nat.lt_succ_self _)) hop hd hzz
    · cases hs
  | box t x =>
    rw [hop] at hs
    obtain ⟨y, hy, rfl⟩ := map_some hs
    simp only [evIns] at he
    split at he
    · rename_i cs hcs
      obtain ⟨rfl, rfl, rfl⟩ : V.c (.ptr n 0) = v ∧ [(n, Blk.box cs)] = u ∧ n + 1 = n' := by simpa using he
      exact op_box hI (hn n (Nat.le_refl _) (Nat.lt_succ_self _)) hrd hop hy hcs
    · cases he
  | build t ps =>
    rw [hop] at hs
    simp only [slimI] at hs
    split at hs
    · rename_i d hd
      split at hs
      · rename_i fs z hfs hzz
        split at hs
        · rename_i hall
          obtain ⟨qs, hqs, rfl⟩ := map_some hs
          simp only [evIns] at he
          split at he
          · rename_i cs hcs
            obtain ⟨rfl, rfl, rfl⟩ : V.agg cs = v ∧ [] = u ∧ n = n' := by simpa using he
            exact op_build htt hI hrd hop hd hfs hzz hall hqs hcs
          · cases he
        · cases hs
      · cases hs
    · cases hs
  | buildSlice t m ps =>
    rw [hop] at hs
    simp only [slimI] at hs
    split at hs
    · rename_i d hd
      split at hs
      · rename_i e hds
        split at hs
        · rename_i de hde
          split at hs
          · rename_i z hzz
            split at hs
            · rename_i hcnd
              simp only [Bool.and_eq_true, decide_eq_true_eq] at hcnd
              obtain ⟨qs, hqs, rfl⟩ := map_some hs
              simp only [evIns] at he
              split at he
              · rename_i cs hcs
                split at he
                · rename_i ts us hts
                  obtain ⟨rfl, rfl, rfl⟩ : V.c (.own n de.size 0 m) = v ∧ us ++ [(n, Blk.arr de.size ts)] = u ∧ n + 1 = n' := by simpa using he
                  exact op_bsl htt hI (hn n (Nat.le_refl _) (Nat.lt_succ_self _)) hrd hop hd hds hde hzz hcnd.1 hcnd.2 hqs hcs hts
                · cases he
              · cases he
            · cases hs
          · cases hs
        · cases hs
      · cases hs
    · cases hs
  | load t x =>
    rw [hop] at hs
    simp only [slimI] at hs
    split at hs
    · rename_i d x' h1 h2
      obtain rfl : _ = ins := by simpa using hs
      exact op_load htt hI hrd hop h1 h2 he
    · cases hs
  | store t x y =>
    rw [hop] at hs
    simp only [slimI] at hs
    split at hs
    · rename_i d x' y' h1 h2 h3
      obtain rfl : _ = ins := by simpa using hs
      exact op_store htt hI hrd hop h1 h2 h3 he
    · cases hs
  | binOp b t x y ty => exact ins_bin htt hI hrd hop (by rw [← hop]; exact hs) hz he
  | unOp b t x =>
    rw [hop] at hs
    obtain ⟨y, hy, rfl⟩ := map_some hs
    exact op_un hI hrd hop hy he
  | convert s t x =>
    rw [hop] at hs
    simp only [slimI] at hs
    split at hs
    · rename_i ds d x' h1 h2 h3
      split at hs
      · rename_i k' k hk' hk
        obtain rfl : _ = ins := by simpa using hs
        exact op_convI htt hI hrd hop h1 hk' h2 hk h3 he
      · rename_i hk' hk
        obtain rfl : _ = ins := by simpa using hs
        exact op_convS htt hI hrd hop h1 hk' h2 hk h3 he
      · rename_i e hk' hk
        split at hs
        · rename_i de hde
          split at hs
          · rename_i hdd
            split at hs
            · obtain rfl : _ = ins := by simpa using hs
              exact op_convB htt hI hrd hop h1 hk' hde hdd h2 hk h3 he
            · cases hs
          · cases hs
        · cases hs
      · cases hs
    · cases hs
  | makeFunc f first caps =>
    rw [hop] at hs
    cases f with
    | func f =>
      simp only [slimI] at hs
      split at hs
      · rename_i hf
        obtain ⟨ys, hys, rfl⟩ := map_some hs
        exact op_mkfn hI hrd hop hf hys he
      · cases hs
    | _ => simp [slimI] at hs
  | makeMap t r =>
    rw [hop] at hs
    cases r with
    | none =>
      simp only [slimI] at hs
      split at hs
      · split at hs
        · split at hs
          · rename_i dk de hdk hde
            obtain rfl : _ = ins := by simpa using hs
            obtain ⟨rfl, rfl, rfl⟩ : V.c (.mp n) = v ∧ [(n, Blk.map dk.agg de.agg [])] = u ∧ n + 1 = n' := by simpa [evIns] using he
            exact op_mkmap hI (hn n (Nat.le_refl _) (Nat.lt_succ_self _)) _ _ hop
          · cases hs
        · cases hs
      · cases hs
    | some r => simp [slimI] at hs
  | makeSlice t l c =>
    rw [hop] at hs
    simp only [slimI] at hs
    split at hs
    · rename_i d hd
      split at hs
      · rename_i e hds
        split at hs
        · rename_i de hde
          split at hs
          · rename_i z l' c' hzz hl hc
            split at hs
            · rename_i h0
              obtain rfl : _ = ins := by simpa using hs
              exact op_mksl htt hI hn hrd hop hd hds hde hzz h0 hl hc he
            · cases hs
          · cases hs
        · cases hs
      · cases hs
    · cases hs
  | slice t x lo hi mx =>
    rw [hop] at hs
    cases mx with
    | none =>
      simp only [slimI] at hs
      split at hs
      · rename_i d hd
        split at hs
        · rename_i e hds
          split at hs
          · rename_i de x' lo' hi' hde hx hlo hhi
            split at hs
            · obtain rfl : _ = ins := by simpa using hs
              exact op_slc htt hI hrd hop hd hds hde hx hlo hhi he
            · cases hs
          · cases hs
        · cases hs
      · cases hs
    | some m => simp [slimI] at hs
  | fieldAddr t x i =>
    rw [hop] at hs
    simp only [slimI] at hs
    split at hs
    · rename_i d hd
      split at hs
      · rename_i fs hds
        split at hs
        · rename_i f hf
          split at hs
          · rename_i df x' hdf hx
            split at hs
            · rename_i h0
              obtain rfl : _ = ins := by simpa using hs
              exact op_fld htt hI hrd hop hd hds hf hdf h0 hx he
            · cases hs
          · cases hs
        · cases hs
      · cases hs
    · cases hs
  | field t x i =>
    rw [hop] at hs
    simp only [slimI] at hs
    split at hs
    · rename_i d hd
      split at hs
      · rename_i fs hds
        split at hs
        · rename_i f hf
          split at hs
          · rename_i df x' hdf hx
            obtain rfl : _ = ins := by simpa using hs
            exact op_getf htt hI hrd hop hd hds hf hdf hx he
          · cases hs
        · cases hs
      · cases hs
    · cases hs
  | indexAddr t x i =>
    rw [hop] at hs
    simp only [slimI] at hs
    split at hs
    · rename_i d x' i' hd hx hi
      split at hs
      · rename_i e hds
        split at hs
        · rename_i de hde
          split at hs
          · rename_i h0
            obtain rfl : _ = ins := by simpa using hs
            exact op_idx htt hI hrd hop hd hds hde h0 hx hi he
          · cases hs
        · cases hs
      · rename_i m e hds
        split at hs
        · rename_i de hde
          split at hs
          · obtain rfl : _ = ins := by simpa using hs
            exact op_idxA htt hI hrd hop hd hds hde hx hi he
          · cases hs
        · cases hs
      · cases hs
    · cases hs
  | index t x i =>
    rw [hop] at hs
    simp only [slimI] at hs
    split at hs
    · rename_i d x' i' hd hx hi
      split at hs
      · rename_i m e hds
        split at hs
        · rename_i de hde
          obtain rfl : _ = ins := by simpa using hs
          exact op_at htt hI hrd hop hd hds hde hx hi he
        · cases hs
      · rename_i hds
        obtain rfl : _ = ins := by simpa using hs
        exact op_ats htt hI hrd hop hd hds hx hi he
      · cases hs
    · cases hs
  | extract x i =>
    rw [hop] at hs
    obtain ⟨y, hy, rfl⟩ := map_some hs
    exact op_ext hI hrd hop hy he
  | lookup t m k ok =>
    rw [hop] at hs
    simp only [slimI] at hs
    repeat' (split at hs)
    all_goals first
      | (cases hs; done)
      | (obtain rfl : _ = ins := by simpa using hs
         cases hz)
  | mapUpdate t m k x =>
    rw [hop] at hs
    simp only [slimI] at hs
    repeat' (split at hs)
    all_goals first
      | (cases hs; done)
      | (obtain rfl : _ = ins := by simpa using hs
         cases hz)
  | nilCheck x =>
    rw [hop] at hs
    obtain ⟨y, hy, rfl⟩ := map_some hs
    exact op_nilc hI hrd hop hy he
  | call c => exact ins_call htt hI hn hrd hop (by rw [← hop]; exact hs) hz he
  | _ => rw [hop] at hs; simp [slimI] at hs
end
end Go.Proofs.Sg
