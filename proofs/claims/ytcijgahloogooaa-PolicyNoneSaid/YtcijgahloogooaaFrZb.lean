/- The frame, part Zb: slices as lists. -/
import Derived.Test.YtcijgahloogooaaFrZa
namespace Go.Proofs.Sg

/-- A slice that nobody writes: nil, or a list. -/
inductive Sl (α : Type) where
  | nil
  | mk (l : List α)
  deriving Inhabited
def Sl.l {α : Type} : Sl α → List α
  | .nil => []
  | .mk l => l
def Sl.t {α : Type} (f : α → List T) : Sl α → T
  | .nil => .v (.slice none 0 0)
  | .mk l => .sl l.length (l.flatMap f)
def Sl.at {α : Type} [Inhabited α] (s : Sl α) (i : Int) : α := s.l.getD i.toNat default
def Sl.cut {α : Type} (lo hi : Int) : Sl α → Sl α
  | .nil => .nil
  | .mk l => .mk ((l.drop lo.toNat).take (hi - lo).toNat)
/-- Elements of so many cells. -/
def Fx {α : Type} (f : α → List T) (e : Nat) : Prop := ∀ x, (f x).length = e

def u8c (x : BitVec 8) : List T := [.v (U8 x)]
def u32c (x : BitVec 32) : List T := [.v (U32 x)]
theorem fx_u8 : Fx u8c 1 := fun _ => rfl
theorem fx_u32 : Fx u32c 1 := fun _ => rfl

section
variable {α : Type} {f : α → List T} {e : Nat}
theorem Fx.len (h : Fx f e) : ∀ l : List α, (l.flatMap f).length = l.length * e
  | [] => by simp
  | x :: l => by rw [List.flatMap_cons, List.length_append, h x, h.len l, List.length_cons, Nat.add_mul, Nat.one_mul, Nat.add_comm]
theorem Fx.drop (h : Fx f e) : ∀ (i : Nat) (l : List α), (l.flatMap f).drop (i * e) = (l.drop i).flatMap f
  | 0, l => by simp
  | i + 1, [] => by simp
  | i + 1, x :: l => by
    rw [List.flatMap_cons, List.drop_append, h x, List.drop_of_length_le (by rw [h x, Nat.add_mul]; omega), List.nil_append, show (i + 1) * e - e = i * e by rw [Nat.add_mul]; omega, h.drop i l, List.drop_succ_cons]
theorem Fx.take (h : Fx f e) : ∀ (i : Nat) (l : List α), (l.flatMap f).take (i * e) = (l.take i).flatMap f
  | 0, l => by simp
  | i + 1, [] => by simp
  | i + 1, x :: l => by
    rw [List.flatMap_cons, List.take_succ_cons, List.flatMap_cons, ← h.take i l, Nat.add_mul, Nat.one_mul, Nat.add_comm, List.take_append, h x, Nat.add_sub_cancel_left, List.take_of_length_le (by rw [h x]; omega)]
variable {lk : Look} {k : Nat} {rd : Opd → V} {s : Sl α}

def vLen (k : Nat) : Option Nat → Out
  | some n => some (V.int .i64 n, [], k)
  | none => none
theorem vLen_some {n : Nat} : vLen k (some n) = some (V.int .i64 n, [], k) := rfl
theorem evI_len {x : Opd} : evIns lk k rd (.len false x) = vLen k (lenOf (rd x)) := by
  simp only [evIns, Bool.false_eq_true, if_false]
  cases lenOf (rd x) <;> rfl
theorem lenOf_sl : lenOf (.c (.t (s.t f))) = some s.l.length := by cases s <;> rfl
theorem lenOf_nil : lenOf (.c (.t (.v (.slice none 0 0)))) = some 0 := rfl
theorem lenOf_own {id off len : Nat} : lenOf (.c (.own id e off len)) = some len := rfl
theorem lenOf_lit {n : Nat} {cs : List T} : lenOf (.c (.t (.sl n cs))) = some n := rfl

def vIdx (k e : Nat) (x i : V) : Out := match intOf i with
  | some i => match x with
    | .c (.t (.sl n cs)) => if 0 ≤ i && i < n && decide ((i.toNat + 1) * e ≤ cs.length) && decide (0 < e) then some (.c (.tp (cs.drop (i.toNat * e))), [], k) else none
    | .c (.own id e' off len) => if 0 ≤ i && i < len && e = e' then some (.c (.ptr id (off + i.toNat * e)), [], k) else none
    | _ => none
  | none => none
theorem evI_idx {x i : Opd} : evIns lk k rd (.idx e x i) = vIdx k e (rd x) (rd i) := rfl
theorem vIdx_sl [Inhabited α] {i : Int} (hf : Fx f e) (he : 0 < e) (h0 : 0 ≤ i) (h1 : i < s.l.length) : vIdx k e (.c (.t (s.t f))) (V.int .i64 i) = some (.c (.tp (f (s.at i) ++ (s.l.drop (i.toNat + 1)).flatMap f)), [], k) := by
  cases s with
  | nil => simp [Sl.l] at h1; omega
  | mk l =>
    have hi : i.toNat < l.length := by simp [Sl.l] at h1; omega
    have hle : (i.toNat + 1) * e ≤ l.length * e := Nat.mul_le_mul_right e hi
    have hc : (decide (0 ≤ i) && decide (i < (l.length : Int)) && decide ((i.toNat + 1) * e ≤ (l.flatMap f).length) && decide (0 < e)) = true := by
      rw [hf.len]
      simp only [Bool.and_eq_true, decide_eq_true_eq]
      exact ⟨⟨⟨h0, by simpa [Sl.l] using h1⟩, hle⟩, he⟩
    show (if _ then _ else _) = _
    rw [if_pos hc, hf.drop, List.drop_eq_getElem_cons hi, List.flatMap_cons]
    simp only [Sl.at, Sl.l, List.getD_eq_getElem?_getD, List.getElem?_eq_getElem hi, Option.getD_some]
theorem vIdx_own {id off len : Nat} {i : Int} (h0 : 0 ≤ i) (h1 : i < len) : vIdx k e (.c (.own id e off len)) (V.int .i64 i) = some (.c (.ptr id (off + i.toNat * e)), [], k) := by
  show (if _ then _ else _) = _
  rw [if_pos (by simp [h0, h1])]

theorem intOf_int {kd : IntKind} {i : Int} : intOf (V.int kd i) = some i := rfl
theorem bnd_none {d : Int} : bnd rd d none = some d := rfl
theorem bnd_some {d : Int} {o : Opd} : bnd rd d (some o) = intOf (rd o) := rfl
def vSlcC (k e : Nat) (x : V) (n : Nat) : Option Int → Option Int → Out
  | some l, some h => if 0 ≤ l && l ≤ h && h ≤ n then
      match x with
      | .c (.t (.sl _ cs)) => if n * e ≤ cs.length then some (.c (.t (.sl (h - l).toNat ((cs.drop (l.toNat * e)).take ((h - l).toNat * e)))), [], k) else none
      | .c (.t (.v (.slice none 0 0))) => some (x, [], k)
      | .c (.own id e' off _) => if e = e' then (if l = h then some (.c (.t (.sl 0 [])), [], k) else some (.c (.own id e (off + l.toNat * e) (h - l).toNat), [], k)) else none
      | _ => none
    else none
  | _, _ => none
def vSlc (k e : Nat) (rd : Opd → V) (x : V) (lo hi : Option Opd) : Option Nat → Out
  | some n => vSlcC k e x n (bnd rd 0 lo) (bnd rd n hi)
  | none => none
theorem vSlc_some {x : V} {lo hi : Option Opd} {n : Nat} : vSlc k e rd x lo hi (some n) = vSlcC k e x n (bnd rd 0 lo) (bnd rd n hi) := rfl
theorem evI_slc {x : Opd} {lo hi : Option Opd} : evIns lk k rd (.slc e x lo hi) = vSlc k e rd (rd x) lo hi (lenOf (rd x)) := by
  show (match lenOf (rd x) with | none => none | some n => _) = _
  cases lenOf (rd x) with
  | none => rfl
  | some n =>
    rw [vSlc_some]
    dsimp only
    cases bnd rd 0 lo with
    | none => rfl
    | some l =>
      cases bnd rd (↑n) hi with
      | none => rfl
      | some h => rfl
theorem vSlcC_sl {lo hi : Int} {n : Nat} (hf : Fx f e) (hn : n = s.l.length) (h0 : 0 ≤ lo) (h1 : lo ≤ hi) (h2 : hi ≤ n) : vSlcC k e (.c (.t (s.t f))) n (some lo) (some hi) = some (.c (.t ((s.cut lo hi).t f)), [], k) := by
  subst hn
  unfold vSlcC
  dsimp only
  rw [if_pos (by simp [h0, h1, h2])]
  cases s with
  | nil => rfl
  | mk l =>
    show (if l.length * e ≤ (l.flatMap f).length then _ else _) = _
    have h3 : (hi - lo).toNat ≤ l.length - lo.toNat := by simp [Sl.l] at h2; omega
    rw [if_pos (by rw [hf.len]; exact Nat.le_refl _), hf.drop, hf.take]
    simp only [Sl.cut, Sl.t, List.length_take, List.length_drop, Nat.min_eq_left h3]
theorem vSlcC_own {id off len n : Nat} {lo hi : Int} (h0 : 0 ≤ lo) (h1 : lo < hi) (h2 : hi ≤ n) : vSlcC k e (.c (.own id e off len)) n (some lo) (some hi) = some (.c (.own id e (off + lo.toNat * e) (hi - lo).toNat), [], k) := by
  unfold vSlcC
  dsimp only
  rw [if_pos (by simp [h0, h2]; omega)]
  show (if e = e then _ else _) = _
  rw [if_pos rfl, if_neg (by omega)]
theorem vSlcC_own0 {id off len n : Nat} {lo hi : Int} (h0 : 0 ≤ lo) (h1 : lo = hi) (h2 : hi ≤ n) : vSlcC k e (.c (.own id e off len)) n (some lo) (some hi) = some (.c (.t (.sl 0 [])), [], k) := by
  unfold vSlcC
  dsimp only
  rw [if_pos (by simp [h0, h2]; omega)]
  show (if e = e then _ else _) = _
  rw [if_pos rfl, if_pos h1]
theorem vSlcC_nil {n : Nat} {lo hi : Int} (h0 : 0 ≤ lo) (h1 : lo ≤ hi) (h2 : hi ≤ n) : vSlcC k e (.c (.t (.v (.slice none 0 0)))) n (some lo) (some hi) = some (.c (.t (.v (.slice none 0 0))), [], k) := by
  unfold vSlcC
  dsimp only
  rw [if_pos (by simp [h0, h1, h2])]
  rfl

/-! ### Appends -/
def vApp3 (k e bytes : Nat) (id len m : Nat) (new : List T) : Option Blk → Out
  | some (.arr e'' cs) => if e = e'' && decide (len * e ≤ cs.length) && room (len + m) bytes then some (.c (.own k e 0 (len + m)), [(id, .gone), (k, .arr e (cs.take (len * e) ++ new))], k + 1) else none
  | _ => none
def vApp2 (lk : Look) (k e bytes : Nat) (x : V) : Option (Nat × List T) → Out
  | none => none
  | some (m, new) =>
    if m = 0 then (match x with
      | .c (.t (.v (.slice none 0 0))) => some (x, [], k)
      | .c (.own id e' off len) => some (.c (.own id e' off len), [], k)
      | .c (.t (.sl n cs)) => some (.c (.t (.sl n cs)), [], k)
      | _ => none)
    else match x with
      | .c (.t (.v (.slice none 0 0))) => if room m bytes then some (.c (.own k e 0 m), [(k, .arr e new)], k + 1) else none
      | .c (.own id e' 0 len) => match lk id with
        | some (.arr e'' cs) => if e = e' && e = e'' && decide (len * e ≤ cs.length) && room (len + m) bytes then some (.c (.own k e 0 (len + m)), [(id, .gone), (k, .arr e (cs.take (len * e) ++ new))], k + 1) else none
        | _ => none
      | _ => none
theorem evI_app {bytes : Nat} {x y : Opd} : evIns lk k rd (.app e bytes x y) = vApp2 lk k e bytes (rd x) (srcOf lk e (rd y)) := by
  show (match srcOf lk e (rd y) with | none => none | some (m, new) => _) = _
  cases srcOf lk e (rd y) with
  | none => rfl
  | some p => rfl
def vSrc (off len e : Nat) : Option (List T × Bool) → Option (Nat × List T)
  | some (cs, _) => if off + len * e ≤ cs.length then some (len, (cs.drop off).take (len * e)) else none
  | none => none
theorem vSrc_some {off len : Nat} {cs : List T} {b : Bool} : vSrc off len e (some (cs, b)) = if off + len * e ≤ cs.length then some (len, (cs.drop off).take (len * e)) else none := rfl
theorem srcOf_own {id off len : Nat} : srcOf lk e (.c (.own id e off len)) = vSrc off len e (aOf (lk id)) := by
  show (if e = e then _ else _) = _
  rw [if_pos rfl]
  unfold arrOf vSrc aOf
  cases lk id with
  | none => rfl
  | some b => cases b <;> rfl
theorem srcOf_sl (hf : Fx f e) : srcOf lk e (.c (.t (s.t f))) = some (s.l.length, s.l.flatMap f) := by
  cases s with
  | nil => rfl
  | mk l =>
    show (if l.length * e ≤ (l.flatMap f).length then some (l.length, (l.flatMap f).take (l.length * e)) else none) = _
    rw [if_pos (by rw [hf.len]; exact Nat.le_refl _), List.take_of_length_le (by rw [hf.len]; exact Nat.le_refl _)]
    rfl
theorem srcOf_nil : srcOf lk e (.c (.t (.v (.slice none 0 0)))) = some (0, []) := rfl
theorem vApp2_own {bytes id len m : Nat} {new : List T} (hm : m ≠ 0) : vApp2 lk k e bytes (.c (.own id e 0 len)) (some (m, new)) = vApp3 k e bytes id len m new (lk id) := by
  unfold vApp2 vApp3
  dsimp only
  rw [if_neg hm]
  show (match lk id with | some (.arr e'' cs) => if (decide (e = e) && decide (e = e'') && decide (len * e ≤ cs.length) && room (len + m) bytes) = true then _ else _ | _ => none) = _
  cases lk id with
  | none => rfl
  | some b => cases b <;> simp
theorem vApp2_own0 {bytes id len off m : Nat} {new : List T} (hm : m = 0) : vApp2 lk k e bytes (.c (.own id e off len)) (some (m, new)) = some (.c (.own id e off len), [], k) := by
  unfold vApp2
  dsimp only
  rw [if_pos hm]
theorem vApp2_sl0 {bytes n m : Nat} {cs new : List T} (hm : m = 0) : vApp2 lk k e bytes (.c (.t (.sl n cs))) (some (m, new)) = some (.c (.t (.sl n cs)), [], k) := by
  unfold vApp2
  dsimp only
  rw [if_pos hm]
theorem vApp2_nil0 {bytes m : Nat} {new : List T} (hm : m = 0) : vApp2 lk k e bytes (.c (.t (.v (.slice none 0 0)))) (some (m, new)) = some (.c (.t (.v (.slice none 0 0))), [], k) := by
  unfold vApp2
  dsimp only
  rw [if_pos hm]
  rfl
theorem vApp2_nil {bytes m : Nat} {new : List T} (hm : m ≠ 0) (hr : m * bytes ≤ 35184372088832) : vApp2 lk k e bytes (.c (.t (.v (.slice none 0 0)))) (some (m, new)) = some (.c (.own k e 0 m), [(k, .arr e new)], k + 1) := by
  unfold vApp2
  dsimp only
  rw [if_neg hm, if_pos (by simpa [room] using hr)]
  rfl
theorem vApp3_arr {bytes id len m : Nat} {cs new : List T} (hl : len * e ≤ cs.length) (hr : (len + m) * bytes ≤ 35184372088832) :
    vApp3 k e bytes id len m new (some (.arr e cs)) = some (.c (.own k e 0 (len + m)), [(id, .gone), (k, .arr e (cs.take (len * e) ++ new))], k + 1) := by
  unfold vApp3
  dsimp only
  rw [if_pos (by simp [hl, room, hr])]

/-! ### Structs, tuples -/
def vCut (k off n : Nat) (agg : Bool) : V → Out
  | .agg cs => vCells k off n agg cs
  | _ => none
theorem evI_getf {off n : Nat} {agg : Bool} {x : Opd} : evIns lk k rd (.getf off n agg x) = vCut k off n agg (rd x) := by
  simp only [evIns, vCut, vCells]
  cases rd x <;> rfl
theorem vCut_agg {off n : Nat} {agg : Bool} {cs : List C} : vCut k off n agg (.agg cs) = vCells k off n agg cs := rfl
def vExt (k i : Nat) : V → Out
  | .tup vs => match vs[i]? with
    | some (agg, cs) => (mk agg cs).map (·, [], k)
    | none => none
  | _ => none
theorem evI_ext {x : Opd} {i : Nat} : evIns lk k rd (.ext x i) = vExt k i (rd x) := rfl
def vExt1 (k : Nat) : Option (Bool × List C) → Out
  | some (true, cs) => some (.agg cs, [], k)
  | some (false, [c]) => some (.c c, [], k)
  | _ => none
theorem vExt_tup {i : Nat} {vs : List (Bool × List C)} : vExt k i (.tup vs) = vExt1 k vs[i]? := by
  unfold vExt vExt1
  dsimp only
  cases vs[i]? with
  | none => rfl
  | some p =>
    obtain ⟨a, cs⟩ := p
    cases a with
    | true => rfl
    | false => match cs with
      | [] => rfl
      | [_] => rfl
      | _ :: _ :: _ => rfl
theorem vExt1_agg {cs : List C} : vExt1 k (some (true, cs)) = some (.agg cs, [], k) := rfl
theorem vExt1_one {c : C} : vExt1 k (some (false, [c])) = some (.c c, [], k) := rfl
def vBuild (k : Nat) : Option (List C) → Out
  | some cs => some (.agg cs, [], k)
  | none => none
theorem vBuild_some {cs : List C} : vBuild k (some cs) = some (.agg cs, [], k) := rfl
theorem evI_build {z : List Value} {ps : List (Nat × Nat × Opd)} : evIns lk k rd (.build z ps) = vBuild k (fillC (z.map C.p) (ps.map fun p => (p.1, p.2.1, rd p.2.2))) := by
  simp only [evIns, vBuild]
  cases fillC (z.map C.p) (ps.map fun p => (p.1, p.2.1, rd p.2.2)) <;> rfl
def fillM (cs : List C) (off n : Nat) (ps : List (Nat × Nat × V)) : Option (List C) → Option (List C)
  | some vs => if vs.length = n ∧ off + n ≤ cs.length then fillC (cs.take off ++ vs ++ cs.drop (off + n)) ps else none
  | none => none
theorem fillC_nil {cs : List C} : fillC cs [] = some cs := rfl
theorem fillC_cons {cs : List C} {off n : Nat} {v : V} {ps : List (Nat × Nat × V)} : fillC cs ((off, n, v) :: ps) = fillM cs off n ps v.mem := by
  simp only [fillC, fillM]
  cases v.mem with
  | none => rfl
  | some vs =>
    dsimp only
    by_cases h : vs.length = n ∧ off + n ≤ cs.length
    · rw [if_pos h, if_pos (by simp [h])]
    · rw [if_neg h, if_neg (by simpa using h)]
theorem fillM_some {cs vs : List C} {off n : Nat} {ps : List (Nat × Nat × V)} : fillM cs off n ps (some vs) = if vs.length = n ∧ off + n ≤ cs.length then fillC (cs.take off ++ vs ++ cs.drop (off + n)) ps else none := rfl
def vBslT (k e n : Nat) : Option (List T × List (Nat × Blk)) → Out
  | some (ts, u) => some (.c (.own k e 0 n), u ++ [(k, .arr e ts)], k + 1)
  | none => none
def vBsl (lk : Look) (k e n : Nat) : Option (List C) → Out
  | some cs => vBslT k e n (toTs lk cs)
  | none => none
theorem vBsl_some {n : Nat} {cs : List C} : vBsl lk k e n (some cs) = vBslT k e n (toTs lk cs) := rfl
theorem vBslT_some {n : Nat} {ts : List T} {u : List (Nat × Blk)} : vBslT k e n (some (ts, u)) = some (.c (.own k e 0 n), u ++ [(k, .arr e ts)], k + 1) := rfl
theorem evI_bsl {z : List Value} {n : Nat} {ps : List (Nat × Opd)} : evIns lk k rd (.bsl e z n ps) = vBsl lk k e n (fillC ((List.replicate n (z.map C.p)).flatten) (ps.map fun p => (p.1 * e, e, rd p.2))) := by
  simp only [evIns, vBsl, vBslT]
  cases fillC ((List.replicate n (z.map C.p)).flatten) (ps.map fun p => (p.1 * e, e, rd p.2)) with
  | none => rfl
  | some cs =>
    dsimp only
    cases toTs lk cs <;> rfl
def vNil (k : Nat) (neg : Bool) : Option Bool → Out
  | some b => some (V.bool (if neg = true then !b else b), [], k)
  | none => none
theorem vNil_some {neg b : Bool} : vNil k neg (some b) = some (V.bool (if neg = true then !b else b), [], k) := rfl
theorem evI_nileq {p neg : Bool} {x y : Opd} : evIns lk k rd (.nileq p neg x y) = vNil k neg (nilEq p (rd x) (rd y)) := by
  simp only [evIns, vNil]
  cases nilEq p (rd x) (rd y) <;> rfl
def Sl.isNil {α : Type} : Sl α → Bool
  | .nil => true
  | .mk _ => false
theorem nilEq_sl : nilEq false (.c (.t (s.t f))) (.c (.t (.v (.slice none 0 0)))) = some s.isNil := by cases s <;> rfl
theorem nilEq_own {id off len : Nat} : nilEq false (.c (.own id e off len)) (.c (.t (.v (.slice none 0 0)))) = some false := rfl
theorem nilEq_nil : nilEq false (.c (.t (.v (.slice none 0 0)))) (.c (.t (.v (.slice none 0 0)))) = some true := rfl
def vMM (k : Nat) (mx : Bool) : V → V → Out
  | .c (.t (.v (.int kd a))), .c (.t (.v (.int k' b))) => if kd = k' then some (V.int kd (if mx then (if a < b then b else a) else (if b < a then b else a)), [], k) else none
  | _, _ => none
theorem evI_mm {mx : Bool} {x y : Opd} : evIns lk k rd (.mm mx x y) = vMM k mx (rd x) (rd y) := rfl
theorem vMM_min {a b : Int} : vMM k false (V.int .i64 a) (V.int .i64 b) = some (V.int .i64 (min a b), [], k) := by
  show some (V.int .i64 (if b < a then b else a), [], k) = _
  congr 3; omega
theorem vMM_max {a b : Int} : vMM k true (V.int .i64 a) (V.int .i64 b) = some (V.int .i64 (max a b), [], k) := by
  show some (V.int .i64 (if a < b then b else a), [], k) = _
  congr 3; omega
def vUn (k : Nat) (o : UnOp) : V → Out
  | .c (.t (.v a)) => vP k (un1 o a)
  | _ => none
theorem vUn_v {o : UnOp} {a : Value} : vUn k o (.c (.t (.v a))) = vP k (un1 o a) := rfl
theorem evI_un {o : UnOp} {x : Opd} : evIns lk k rd (.un o x) = vUn k o (rd x) := by
  simp only [evIns, vUn]
  cases rd x with
  | c c => cases c with
    | t t => cases t with
      | v a => dsimp only; unfold vP; cases un1 o a <;> rfl
      | _ => rfl
    | _ => rfl
  | _ => rfl
theorem un_not {b : Bool} : un1 .not (.bool b) = some (.bool (!b)) := rfl
theorem un_neg {n : Int} : un1 .neg (.int .i64 n) = some (.int .i64 (IntKind.i64.wrap (0 - n))) := rfl
theorem un_com {x : BitVec 32} : un1 .xor (U32 x) = some (U32 (~~~ x)) := by
  show some (Value.int .u32 (IntKind.u32.wrap ((BitVec.ofInt 32 4294967295 ^^^ BitVec.ofInt 32 (x.toNat : Int)).toNat : Int))) = _
  rw [ofInt_toNat, w32, ofInt_toNat]
  rfl
def vBeq (k : Nat) (neg : Bool) : V → V → Out
  | .c (.t (.v (.bool a))), .c (.t (.v (.bool b))) => some (V.bool (if neg then !(a == b) else a == b), [], k)
  | _, _ => none
theorem evI_beq {neg : Bool} {x y : Opd} : evIns lk k rd (.beq neg x y) = vBeq k neg (rd x) (rd y) := rfl
theorem vBeq_b {neg a b : Bool} : vBeq k neg (V.bool a) (V.bool b) = some (V.bool (if neg = true then !(a == b) else a == b), [], k) := rfl
def vConv (k : Nat) (kd : IntKind) : V → Out
  | .c (.t (.v (.int _ n))) => some (V.int kd (kd.wrap n), [], k)
  | _ => none
theorem evI_conv {kd : IntKind} {x : Opd} : evIns lk k rd (.conv (.int kd) x) = vConv k kd (rd x) := rfl
theorem vConv_u32_i64 {x : BitVec 32} : vConv k .i64 (V.p (U32 x)) = some (V.int .i64 x.toNat, [], k) := by
  show some (V.int .i64 (IntKind.i64.wrap (x.toNat : Int)), [], k) = _
  have := x.isLt
  rw [i64_id (by omega) (by omega)]
theorem vConv_i64_u32 {n : Int} : vConv k .u32 (V.int .i64 n) = some (V.p (U32 (BitVec.ofInt 32 n)), [], k) := by
  show some (V.int .u32 (IntKind.u32.wrap n), [], k) = _
  rw [w32]; rfl
theorem vConv_i64_u64 {n : Int} (h0 : 0 ≤ n) (h1 : n ≤ 9223372036854775807) : vConv k .u64 (V.int .i64 n) = some (V.p (U64 (BitVec.ofNat 64 n.toNat)), [], k) := by
  show some (V.int .u64 (IntKind.u64.wrap n), [], k) = some (V.int .u64 ((BitVec.ofNat 64 n.toNat).toNat : Int), [], k)
  rw [IntKind.wrap_u64, BitVec.toNat_ofNat]
  congr 3
  omega
theorem vConv_i64 {n : Int} : vConv k .i64 (V.int .i64 n) = some (V.int .i64 (IntKind.i64.wrap n), [], k) := rfl
theorem evI_mkfn {g : Nat} {xs : List Opd} : evIns lk k rd (.mkfn g xs) = match ptrsOf (xs.map rd) with | some l => some (V.c (.clo g l), [], k) | none => none := by
  simp only [evIns]
  cases ptrsOf (xs.map rd) <;> rfl
def vStoreB (k id off n : Nat) (lk : Look) (ys : List C) : Option Blk → Out
  | some (.box cs) => if off + n ≤ cs.length then some (.c .any, [(id, .box (cs.take off ++ ys ++ cs.drop (off + n)))], k) else none
  | some (.arr e cs) => if off + n ≤ cs.length then
      match toTs lk ys with
      | some (ts, u) => if u.all (fun q => decide (q.1 ≠ id)) then some (.c .any, u ++ [(id, .arr e (cs.take off ++ ts ++ cs.drop (off + n)))], k) else none
      | none => none
    else none
  | _ => none
def vStore (lk : Look) (k n : Nat) : V → Option (List C) → Out
  | .c (.ptr id off), some ys => if ys.length = n then vStoreB k id off n lk ys (lk id) else none
  | _, _ => none
theorem vStore_ptr {id off n : Nat} {ys : List C} : vStore lk k n (.c (.ptr id off)) (some ys) = if ys.length = n then vStoreB k id off n lk ys (lk id) else none := rfl
theorem vStoreB_box {id off n : Nat} {ys cs : List C} : vStoreB k id off n lk ys (some (.box cs)) = if off + n ≤ cs.length then some (.c .any, [(id, .box (cs.take off ++ ys ++ cs.drop (off + n)))], k) else none := rfl
theorem evI_store {n : Nat} {x y : Opd} : evIns lk k rd (.store n x y) = vStore lk k n (rd x) (rd y).mem := by
  simp only [evIns, vStore, vStoreB]
  cases rd x with
  | c c => cases c with
    | ptr id off =>
      dsimp only
      cases (rd y).mem with
      | none => rfl
      | some ys =>
        dsimp only
        split
        · cases lk id with
          | none => rfl
          | some b => cases b with
            | arr e cs =>
              dsimp only
              split
              · cases toTs lk ys <;> rfl
              · rfl
            | _ => rfl
        · rfl
    | _ => cases (rd y).mem <;> rfl
  | _ => cases (rd y).mem <;> rfl
end

theorem freeOf_nil {f : Foot} {fs : List Foot} : freeOf f [] fs = true := rfl
theorem freeOf_none {f : Foot} {chk : List Nat} : freeOf f chk [] = true := by
  unfold freeOf
  rw [List.all_eq_true]
  intro x _
  rfl
theorem freeOf_cons {f : Foot} {j : Nat} {chk : List Nat} {fs : List Foot} : freeOf f (j :: chk) fs = ((fs.all fun g => g.j != j || f.free g) && freeOf f chk fs) := rfl
theorem goGD_ite {kk : K} {L i : Nat} {b b' : Bool} {d : Option Nat} {ins : Ins} {chk : List Nat} {rc : Bool} {os : List (Op1 × List Nat × Bool)} {fs : List Foot} {ks : List Kt} {s : S} :
    goGD kk L (some (V.bool b')) b i d ins chk rc os fs ks s = if b' = true then goGD kk L (some (V.bool true)) b i d ins chk rc os fs ks s else goGD kk L (some (V.bool false)) b i d ins chk rc os fs ks s := by
  cases b' <;> rfl
theorem goG_ite {kk : K} {L : Nat} {b b' : Bool} {d : Option Nat} {ins : Ins} {os : List Op1} {ks : List Kt} {s : S} :
    goG kk L (some (V.bool b')) b d ins os ks s = if b' = true then goG kk L (some (V.bool true)) b d ins os ks s else goG kk L (some (V.bool false)) b d ins os ks s := by
  cases b' <;> rfl
theorem goB_ite {kk : K} {L : Nat} {b' : Bool} {x y : SC} {ks : List Kt} {s : S} :
    goB kk L (V.bool b') x y ks s = if b' = true then goB kk L (V.bool true) x y ks s else goB kk L (V.bool false) x y ks s := by
  cases b' <;> rfl
theorem Sl.drop_at {α : Type} [Inhabited α] {s : Sl α} {i : Int} (h0 : 0 ≤ i) (h1 : i < s.l.length) : s.l.drop i.toNat = s.at i :: s.l.drop (i + 1).toNat := by
  have hi : i.toNat < s.l.length := by omega
  rw [List.drop_eq_getElem_cons hi, show (i + 1).toNat = i.toNat + 1 by omega]
  simp only [Sl.at, List.getD_eq_getElem?_getD, List.getElem?_eq_getElem hi, Option.getD_some]
theorem Sl.drop_end {α : Type} {s : Sl α} {i : Int} (h1 : ¬ i < s.l.length) : s.l.drop i.toNat = [] := List.drop_of_length_le (by omega)

theorem vSl_ok {id len off e : Nat} {ts : List T} {b : Bool} (h : off + len * e ≤ ts.length) : vSl id len off e (some (ts, b)) = some (.sl len ((ts.drop off).take (len * e)), if b = true then [(id, .frz ts)] else []) := by
  rw [vSl_some, if_pos h]
theorem vSrc_ok {off len e : Nat} {cs : List T} {b : Bool} (h : off + len * e ≤ cs.length) : vSrc off len e (some (cs, b)) = some (len, (cs.drop off).take (len * e)) := by
  rw [vSrc_some, if_pos h]
theorem len_u8 {xs : List (BitVec 8)} : (xs.flatMap u8c).length = xs.length := by rw [fx_u8.len, Nat.mul_one]
theorem len_u32 {xs : List (BitVec 32)} : (xs.flatMap u32c).length = xs.length := by rw [fx_u32.len, Nat.mul_one]
theorem cut_l {α : Type} {s : Sl α} {lo hi : Int} : (s.cut lo hi).l = (s.l.drop lo.toNat).take (hi - lo).toNat := by
  cases s with
  | nil => simp [Sl.cut, Sl.l]
  | mk l => rfl
theorem sl_eq {α : Type} {f : α → List T} {n : Nat} {cs : List T} (xs : List α) (h1 : n = xs.length) (h2 : cs = xs.flatMap f) : T.sl n cs = Sl.t f (.mk xs) := by
  subst h1 h2; rfl
theorem Sl.eq_mk {α : Type} {s : Sl α} (h : 0 < s.l.length) : s = .mk s.l := by
  cases s with
  | nil => simp [Sl.l] at h
  | mk l => rfl
theorem app_u32 {xs ys : List (BitVec 32)} : xs.flatMap u32c ++ ys.flatMap u32c = (xs ++ ys).flatMap u32c := by rw [List.flatMap_append]
theorem one_u32 {x : BitVec 32} : [T.v (U32 x)] = [x].flatMap u32c := rfl

/-! ### Loops -/
theorem loop_F {kk : K} {L : Nat} {c : SC} {ks : List Kt} {z : Bool} {rs : List Rs} {R : Option (V × List Blk)} (I : S → Nat → Prop)
    (hstep : ∀ k s n, I s k → (∀ k' s', k' < k → I s' k' → endF z (endB rs (goI kk L n c ks s')) = R) → endF z (endB rs (goC kk L (.loop n c :: ks) c s)) = R) :
    ∀ k n s, k < n → I s k → endF z (endB rs (goI kk L n c ks s)) = R := by
  intro k
  induction k using Nat.strongRecOn with
  | ind k ih =>
    intro n s hn hI
    obtain ⟨n, rfl⟩ : ∃ m, n = m + 1 := ⟨n - 1, by omega⟩
    rw [goI_succ]
    exact hstep k s n hI fun k' s' hk hI' => ih k' hk n s' (by omega) hI'
theorem loop_R {kk : K} {L : Nat} {c : SC} {ks : List Kt} {rs : List Rs} {R : Option (V × Tr Blk × Nat)} (I : S → Nat → Prop)
    (hstep : ∀ k s n, I s k → (∀ k' s', k' < k → I s' k' → endB rs (goI kk L n c ks s') = R) → endB rs (goC kk L (.loop n c :: ks) c s) = R) :
    ∀ k n s, k < n → I s k → endB rs (goI kk L n c ks s) = R := by
  intro k
  induction k using Nat.strongRecOn with
  | ind k ih =>
    intro n s hn hI
    obtain ⟨n, rfl⟩ : ∃ m, n = m + 1 := ⟨n - 1, by omega⟩
    rw [goI_succ]
    exact hstep k s n hI fun k' s' hk hI' => ih k' hk n s' (by omega) hI'

/-- What holds where a piece of code ends as it should. -/
def nrm (r : Option (Ex × S)) (P : S → Prop) : Prop := match r with
  | some (.norm, s) => P s
  | _ => False
theorem nrm_some {s : S} {P : S → Prop} : nrm (some (.norm, s)) P = P s := rfl
theorem goC_nil {kk : K} {L : Nat} {ks : List Kt} {c : SC} {s s' : S} (h : goC kk L [] c s = some (.norm, s')) : goC kk L ks c s = goN kk L ks s' := by
  unfold goC at h ⊢
  simp only [goK] at h
  rw [h]; rfl
theorem if_cut {kk : K} {L : Nat} {ks : List Kt} {z : Bool} {rs : List Rs} {R : Option (V × List Blk)} {b : Bool} {x y : SC} {s : S} (P : S → Prop)
    (hT : b = true → nrm (goC kk L [] x s) P) (hF : b = false → nrm (goC kk L [] y s) P) (hrest : ∀ s', P s' → endF z (endB rs (goN kk L ks s')) = R) : endF z (endB rs (goB kk L (V.bool b) x y ks s)) = R := by
  have key : ∀ c, nrm (goC kk L [] c s) P → endF z (endB rs (goC kk L ks c s)) = R := fun c h => by
    unfold nrm at h
    split at h
    · rename_i s' he
      rw [goC_nil he]
      exact hrest s' h
    · exact h.elim
  cases b with
  | true => exact key x (hT rfl)
  | false => exact key y (hF rfl)
theorem if_cutR {kk : K} {L : Nat} {ks : List Kt} {rs : List Rs} {R : Option (V × Tr Blk × Nat)} {b : Bool} {x y : SC} {s : S} (P : S → Prop)
    (hT : b = true → nrm (goC kk L [] x s) P) (hF : b = false → nrm (goC kk L [] y s) P) (hrest : ∀ s', P s' → endB rs (goN kk L ks s') = R) : endB rs (goB kk L (V.bool b) x y ks s) = R := by
  have key : ∀ c, nrm (goC kk L [] c s) P → endB rs (goC kk L ks c s) = R := fun c h => by
    unfold nrm at h
    split at h
    · rename_i s' he
      rw [goC_nil he]
      exact hrest s' h
    · exact h.elim
  cases b with
  | true => exact key x (hT rfl)
  | false => exact key y (hF rfl)

theorem loop_N {kk : K} {L : Nat} {c : SC} {ks : List Kt} {P : S → Prop} (I : S → Nat → Prop)
    (hstep : ∀ k s n, I s k → (∀ k' s', k' < k → I s' k' → nrm (goI kk L n c ks s') P) → nrm (goC kk L (.loop n c :: ks) c s) P) :
    ∀ k n s, k < n → I s k → nrm (goI kk L n c ks s) P := by
  intro k
  induction k using Nat.strongRecOn with
  | ind k ih =>
    intro n s hn hI
    obtain ⟨n, rfl⟩ : ∃ m, n = m + 1 := ⟨n - 1, by omega⟩
    rw [goI_succ]
    exact hstep k s n hI fun k' s' hk hI' => ih k' hk n s' (by omega) hI'
theorem loop_Q {kk : K} {L : Nat} {c : SC} {ks : List Kt} {rs : List Rs} (Q : Option (V × Tr Blk × Nat) → Prop) (I : S → Nat → Prop)
    (hstep : ∀ k s n, I s k → (∀ k' s', k' < k → I s' k' → Q (endB rs (goI kk L n c ks s'))) → Q (endB rs (goC kk L (.loop n c :: ks) c s))) :
    ∀ k n s, k < n → I s k → Q (endB rs (goI kk L n c ks s)) := by
  intro k
  induction k using Nat.strongRecOn with
  | ind k ih =>
    intro n s hn hI
    obtain ⟨n, rfl⟩ : ∃ m, n = m + 1 := ⟨n - 1, by omega⟩
    rw [goI_succ]
    exact hstep k s n hI fun k' s' hk hI' => ih k' hk n s' (by omega) hI'
theorem goI_blk {kk : K} {L n id : Nat} {ks : List Kt} {c : SC} {s s' : S} (h : goI kk L n c [.blk id] s = some (.norm, s')) : goI kk L n c (.blk id :: ks) s = goN kk L ks s' := by
  unfold goI at h ⊢
  match iter n (evC kk L c) s, h with
  | some (.norm, s1), h =>
    simp only [goK, Option.some.injEq, Prod.mk.injEq, true_and] at h ⊢
    subst h; rfl
  | some (.exit j, s1), h =>
    simp only [goK] at h ⊢
    split at h
    · rename_i hj
      simp only [Option.some.injEq, Prod.mk.injEq, true_and] at h
      subst h
      rw [if_pos hj]; rfl
    · cases h
  | some (.ret, s1), h => cases h
  | none, h => cases h
theorem blk_cut {kk : K} {L n id : Nat} {ks : List Kt} {c : SC} {s : S} {z : Bool} {rs : List Rs} {R : Option (V × List Blk)} (P : S → Prop)
    (h : nrm (goI kk L n c [.blk id] s) P) (hrest : ∀ s', P s' → endF z (endB rs (goN kk L ks s')) = R) : endF z (endB rs (goI kk L n c (.blk id :: ks) s)) = R := by
  unfold nrm at h
  split at h
  · rename_i s' he
    rw [goI_blk he]
    exact hrest s' h
  · exact h.elim
theorem blk_cutR {kk : K} {L n id : Nat} {ks : List Kt} {c : SC} {s : S} {rs : List Rs} {R : Option (V × Tr Blk × Nat)} (P : S → Prop)
    (h : nrm (goI kk L n c [.blk id] s) P) (hrest : ∀ s', P s' → endB rs (goN kk L ks s') = R) : endB rs (goI kk L n c (.blk id :: ks) s) = R := by
  unfold nrm at h
  split at h
  · rename_i s' he
    rw [goI_blk he]
    exact hrest s' h
  · exact h.elim
theorem blk_cutQ {kk : K} {L n id : Nat} {ks : List Kt} {c : SC} {s : S} {rs : List Rs} (Q : Option (V × Tr Blk × Nat) → Prop) (P : S → Prop)
    (h : nrm (goI kk L n c [.blk id] s) P) (hrest : ∀ s', P s' → Q (endB rs (goN kk L ks s'))) : Q (endB rs (goI kk L n c (.blk id :: ks) s)) := by
  unfold nrm at h
  split at h
  · rename_i s' he
    rw [goI_blk he]
    exact hrest s' h
  · exact h.elim
theorem blk_cutN {kk : K} {L n id : Nat} {ks : List Kt} {c : SC} {s : S} {Q : S → Prop} (P : S → Prop)
    (h : nrm (goI kk L n c [.blk id] s) P) (hrest : ∀ s', P s' → nrm (goN kk L ks s') Q) : nrm (goI kk L n c (.blk id :: ks) s) Q := by
  unfold nrm at h
  split at h
  · rename_i s' he
    rw [goI_blk he]
    exact hrest s' h
  · exact h.elim
theorem if_cutN {kk : K} {L : Nat} {ks : List Kt} {Q : S → Prop} {b : Bool} {x y : SC} {s : S} (P : S → Prop)
    (hT : b = true → nrm (goC kk L [] x s) P) (hF : b = false → nrm (goC kk L [] y s) P) (hrest : ∀ s', P s' → nrm (goN kk L ks s') Q) : nrm (goB kk L (V.bool b) x y ks s) Q := by
  have key : ∀ c, nrm (goC kk L [] c s) P → nrm (goC kk L ks c s) Q := fun c h => by
    unfold nrm at h
    split at h
    · rename_i s' he
      rw [goC_nil he]
      exact hrest s' h
    · exact h.elim
  cases b with
  | true => exact key x (hT rfl)
  | false => exact key y (hF rfl)

theorem goGD_dec {kk : K} {L i : Nat} {p : Prop} [Decidable p] {b : Bool} {d : Option Nat} {ins : Ins} {chk : List Nat} {rc : Bool} {os : List (Op1 × List Nat × Bool)} {fs : List Foot} {ks : List Kt} {s : S} :
    goGD kk L (some (V.bool (decide p))) b i d ins chk rc os fs ks s = if p then goGD kk L (some (V.bool true)) b i d ins chk rc os fs ks s else goGD kk L (some (V.bool false)) b i d ins chk rc os fs ks s := by
  rw [goGD_ite]; by_cases h : p <;> simp [h]
theorem goG_dec {kk : K} {L : Nat} {p : Prop} [Decidable p] {b : Bool} {d : Option Nat} {ins : Ins} {os : List Op1} {ks : List Kt} {s : S} :
    goG kk L (some (V.bool (decide p))) b d ins os ks s = if p then goG kk L (some (V.bool true)) b d ins os ks s else goG kk L (some (V.bool false)) b d ins os ks s := by
  rw [goG_ite]; by_cases h : p <;> simp [h]
theorem goB_dec {kk : K} {L : Nat} {p : Prop} [Decidable p] {x y : SC} {ks : List Kt} {s : S} :
    goB kk L (V.bool (decide p)) x y ks s = if p then goB kk L (V.bool true) x y ks s else goB kk L (V.bool false) x y ks s := by
  rw [goB_ite]; by_cases h : p <;> simp [h]
theorem vPick_ite {k : Nat} {b : Bool} {x y : V} : vPick k (V.bool b) x y = if b = true then some (x, [], k) else some (y, [], k) := by
  cases b <;> rfl

theorem C.shift_scalar {k : Nat} {c : C} (h : c.scalar = true) : c.shift k = c := by
  cases c <;> first | rfl | cases h
theorem V.shift_scalar {k : Nat} {v : V} (h : v.scalar = true) : v.shift k = v := by
  have hl : ∀ cs : List C, cs.all C.scalar = true → cs.map (C.shift k) = cs := fun cs hc => by
    rw [List.all_eq_true] at hc
    conv => rhs; rw [← List.map_id cs]
    exact List.map_congr_left fun z hm => C.shift_scalar (hc z hm)
  match v, h with
  | .c z, h => show V.c _ = _; rw [C.shift_scalar h]
  | .agg cs, h => show V.agg _ = _; rw [hl cs h]
  | .tup vs, h =>
    show V.tup _ = _
    congr 1
    have h' : vs.all (fun v => v.2.all C.scalar) = true := h
    rw [List.all_eq_true] at h'
    conv => rhs; rw [← List.map_id vs]
    refine List.map_congr_left fun p hp => ?_
    rw [hl p.2 (h' p hp)]; rfl
/-- What a call freezes. -/
def uz (b : Bool) (u : List (Nat × Blk)) : List (Nat × Blk) := if b = true then [] else u
theorem uz_nil {b : Bool} : uz b [] = [] := by cases b <;> rfl
theorem uz_true {u : List (Nat × Blk)} : uz true u = [] := rfl
theorem uz_false {u : List (Nat × Blk)} : uz false u = u := rfl
theorem isoR_one {k : Nat} {u : List (Nat × Blk)} {r : V} : isoR k u (some (r, [])) = some (r.shift k, uz r.scalar u, k) := by
  unfold isoR uz
  dsimp only
  by_cases hs : r.scalar = true
  · rw [if_pos ⟨hs, rfl⟩, if_pos hs, V.shift_scalar hs]
  · rw [if_neg (by simp [hs]), if_neg hs]
    simp [news]
theorem shV_c {k : Nat} {c : C} : V.shift k (.c c) = .c (c.shift k) := rfl
theorem shV_agg {k : Nat} {cs : List C} : V.shift k (.agg cs) = .agg (cs.map (C.shift k)) := rfl
theorem shV_tup {k : Nat} {vs : List (Bool × List C)} : V.shift k (.tup vs) = .tup (vs.map fun p => (p.1, p.2.map (C.shift k))) := rfl
theorem shC_t {k : Nat} {x : T} : C.shift k (.t x) = .t x := rfl
theorem shC_own {k id e off len : Nat} : C.shift k (.own id e off len) = .own (k + id) e off len := rfl
theorem shC_ptr {k id off : Nat} : C.shift k (.ptr id off) = .ptr (k + id) off := rfl
theorem shC_mapt {k : Nat} {ts : List T} : (ts.map C.t).map (C.shift k) = ts.map C.t := by
  induction ts with
  | nil => rfl
  | cons x ts ih => rw [List.map_cons, List.map_cons, ih]; rfl
theorem scV_c {c : C} : V.scalar (.c c) = c.scalar := rfl
theorem scV_agg {cs : List C} : V.scalar (.agg cs) = cs.all C.scalar := rfl
theorem scV_tup {vs : List (Bool × List C)} : V.scalar (.tup vs) = vs.all fun v => v.2.all C.scalar := rfl
theorem scC_t {x : T} : C.scalar (.t x) = x.scalar := rfl
theorem scT_v {x : Value} : T.scalar (.v x) = true := rfl
theorem scT_sl {n : Nat} {cs : List T} : T.scalar (.sl n cs) = false := rfl
theorem isoR_many {k : Nat} {u : List (Nat × Blk)} {r : V} {b : Blk} {nb : List Blk} : isoR k u (some (r, b :: nb)) = some (r.shift k, u ++ news k ((b :: nb).map (Blk.shift k)), k + (b :: nb).length) := by
  unfold isoR
  dsimp only
  rw [if_neg (by simp)]
theorem rOut_zero : rOut (some []) = some (.tup []) := rfl
theorem finF_t {st : Tr Blk} {x : T} : finF false st (.c (.t x)) = some (.c (.t x), []) := by
  unfold finF
  simp only [Bool.false_eq_true, if_false]
  rfl
theorem finF_own {st : Tr Blk} {id e off len e' : Nat} {cs : List T} (h : st.get id = some (.arr e' cs)) : finF false st (.c (.own id e off len)) = some (.c (.own 0 e off len), [.arr e' cs]) := by
  unfold finF
  simp only [Bool.false_eq_true, if_false]
  have h1 : cloV st (.c (.own id e off len)) = none := rfl
  rw [h1]
  simp only [extV, extC, h, posOf, List.length_nil, List.nil_append, Option.map_some, extB]
/-- A function with one captured variable, as a tree. -/
def vClo (f id : Nat) : Option Blk → Option (T × List (Nat × Blk))
  | some (.box [.t x]) => some (.fn f [x], [(id, .frz [x])])
  | some (.frz [x]) => some (.fn f [x], [])
  | _ => none
theorem toT_clo {lk : Look} {f id : Nat} : toT lk (.clo f [(id, 0)]) = vClo f id (lk id) := rfl
theorem vClo_box {f id : Nat} {x : T} : vClo f id (some (.box [.t x])) = some (.fn f [x], [(id, .frz [x])]) := rfl
theorem ptrsOf_nil : ptrsOf [] = some [] := rfl
theorem ptrsOf_one {id off : Nat} : ptrsOf [.c (.ptr id off)] = some [(id, off)] := rfl
theorem frzR_false {x : Option (V × List Blk)} : frzR false x = x := rfl
theorem ite_same {α : Type} {p : Prop} [Decidable p] {a : α} : (if p then a else a) = a := by split <;> rfl

attribute [go_sem ↓] uz_nil
attribute [go_sem] uz_nil uz_true uz_false isoR_one isoR_many shV_c shV_agg shV_tup shC_t shC_own shC_ptr shC_mapt scV_c scV_agg scV_tup scC_t scT_v scT_sl news Blk.shift
attribute [go_sem ↓] freeOf_nil freeOf_none
attribute [go_sem] freeOf_cons footOf Foot.free clash Ins.reads Ins.opds V.ids C.ids List.any_cons List.any_nil List.contains_cons List.contains_nil Bool.or_false Bool.or_true Bool.true_or Bool.false_or Bool.false_eq_true
attribute [go_sem] rOut_zero toT_clo vClo_box ptrsOf_one finF_t nrm_some vSl_ok len_u8 len_u32 cut_l fx_u8 fx_u32 vLen_some evI_len lenOf_sl lenOf_nil lenOf_own lenOf_lit evI_idx vIdx_sl vIdx_own intOf_int bnd_none bnd_some vSlc_some evI_slc vSlcC_sl vSlcC_own vSlcC_own0 vSlcC_nil
  evI_app vSrc_ok srcOf_own srcOf_sl srcOf_nil vApp2_own vApp2_own0 vApp2_sl0 vApp2_nil0 vApp2_nil vApp3_arr evI_getf vCut_agg evI_ext vExt_tup vExt1_agg vExt1_one vBuild_some evI_build fillC_nil fillC_cons fillM_some
  vBsl_some vBslT_some evI_bsl vNil_some evI_nileq nilEq_sl nilEq_own nilEq_nil evI_mm vMM_min vMM_max vUn_v evI_un un_not un_neg un_com evI_beq vBeq_b evI_conv vConv_u32_i64 vConv_i64_u32 vConv_i64_u64 vConv_i64 evI_mkfn vStore_ptr vStoreB_box evI_store
  bI_add bI_sub bI_mul bI_quo bI_rem bI_eql bI_neq bI_lss bI_leq bI_gtr bI_geq bU_add bU_sub bU_and bU_or bU_andNot bU_eql bU_neq bU_lss bU_leq bU_gtr bU_geq bU_rem bU_quo bU_shl bU_shr bU_shl64 bU_shr64
  List.replicate_succ List.replicate_zero List.flatten_cons List.flatten_nil Nat.zero_mul Nat.one_mul Nat.mul_one Nat.zero_add Nat.add_zero List.all_append
attribute [irreducible] nrm
end Go.Proofs.Sg
