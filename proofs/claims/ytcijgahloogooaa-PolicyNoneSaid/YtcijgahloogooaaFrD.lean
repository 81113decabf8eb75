/- The frame, part D: the types' table; slim code of loaded code; what loads, stores and new blocks do. -/
import Derived.Test.YtcijgahloogooaaFrC
import Derived.Laws.Cells
namespace Go.Proofs.Sg
open Go.RowKit

/-! ### The types' table -/
structure TD where
  desc : TypeDesc
  size : Nat
  bytes : Nat
  zero : Option (List Value)
  eqok : Bool := false

abbrev TT := Nat → Option TD

structure TDok (P : Program) (t : TypeId) (d : TD) : Prop where
  und : P.underlying t = some d.desc
  info : ∃ i, P.info? t = some i ∧ i.size = d.size ∧ i.bytes = d.bytes ∧ ∀ z, d.zero = some z → z.all plain = true ∧ z.length = d.size ∧ ∃ zv, i.zero = some zv ∧ zv.cells = z.toArray
  eq : d.eqok = true → P.stoodInHeld t = false ∧ P.eqGuardType P.depth t = false

def TTok (P : Program) (tt : TT) : Prop := ∀ t d, tt t = some d → TDok P t d

def TD.agg (d : TD) : Bool := match d.desc with
  | .struct _ | .array _ _ => true
  | _ => false

section
variable {P : Program} {tt : TT} {t : TypeId} {d : TD} {w : World}

theorem TDok.run_und (h : TDok P t d) : (underlying t).run P w = .ok d.desc w := by
  simp [underlying, h.und]
theorem TDok.run_info (h : TDok P t d) : ∃ i, (typeInfo t).run P w = .ok i w ∧ i.size = d.size ∧ i.bytes = d.bytes := by
  obtain ⟨i, hi, h1, h2, _⟩ := h.info
  exact ⟨i, by simp [typeInfo, hi], h1, h2⟩
theorem TDok.run_size (h : TDok P t d) : (sizeOf t).run P w = .ok d.size w := by
  obtain ⟨i, hi, h1, _⟩ := h.run_info (w := w)
  simp [sizeOf, hi, h1]
theorem TDok.run_isAgg (h : TDok P t d) : (isAgg t).run P w = .ok d.agg w := by
  unfold isAgg TD.agg
  simp only [Sem.run_bind, h.run_und, Result.andThen_ok]
  cases d.desc <;> rfl
theorem TDok.run_zero (h : TDok P t d) {z : List Value} (hz : d.zero = some z) : ∃ zv, (zeroValue t).run P w = .ok zv w ∧ zv.cells = z.toArray := by
  obtain ⟨i, hi, _, _, h3⟩ := h.info
  obtain ⟨_, _, zv, h4, h5⟩ := h3 z hz
  exact ⟨zv, by simp [zeroValue, typeInfo, hi, h4], h5⟩
theorem TDok.zero_plain (h : TDok P t d) {z : List Value} (hz : d.zero = some z) : z.all plain = true ∧ z.length = d.size := by
  obtain ⟨i, hi, _, _, h3⟩ := h.info
  exact ⟨(h3 z hz).1, (h3 z hz).2.1⟩
end

/-! ### Cells -/
theorem plain_one {x : Value} (h : plain x = true) : x.oneCell' = true := by
  cases x <;> simp_all [plain, Value.oneCell']
theorem one_cells {x : Value} (h : x.oneCell' = true) : x.cells = #[x] := by
  cases x <;> simp_all [Value.cells, Value.oneCell']

section
variable {M : Mem} {β : Bet}
theorem RT.one {v : Value} {t : T} (h : RT M v t) : v.oneCell' = true := by
  cases t with
  | v x => unfold RT at h; obtain ⟨rfl, h⟩ := h; exact plain_one h
  | sl n cs => unfold RT at h; obtain ⟨A, cap, rfl, _⟩ := h; rfl
  | fn f caps => unfold RT at h; obtain ⟨p, rfl, _⟩ := h; rfl
theorem RC.one {v : Value} {c : C} (h : RC M β v c) (hc : c.ok = true) : v.oneCell' = true := by
  cases c with
  | t x => exact RT.one h
  | ptr id off => obtain ⟨p, _, rfl⟩ := h; rfl
  | own id e off len => obtain ⟨p, cap, _, rfl, _⟩ := h; rfl
  | tp cs => obtain ⟨b, off, mc, rfl, _⟩ := h; rfl
  | clo f caps => obtain ⟨ps, rfl, _⟩ := h; rfl
  | mp id => obtain ⟨p, _, rfl⟩ := h; rfl
  | any => cases hc
theorem RCs.one : ∀ {vs : List Value} {cs : List C}, All2 (RC M β) vs cs → cs.all C.ok = true → ∀ v ∈ vs, v.oneCell' = true
  | [], [], _, _, _, h => by simp at h
  | [], _ :: _, h, _, _, _ => h.elim
  | _ :: _, [], h, _, _, _ => h.elim
  | v :: vs, c :: cs, h, hc, x, hx => by
    simp only [List.all_cons, Bool.and_eq_true] at hc
    rcases List.mem_cons.1 hx with rfl | hx
    · exact RC.one h.1 hc.1
    · exact RCs.one h.2 hc.2 x hx
theorem RTs2.one : ∀ {vs : List Value} {cs : List T}, All2 (RT M) vs cs → ∀ v ∈ vs, v.oneCell' = true
  | [], [], _, _, h => by simp at h
  | [], _ :: _, h, _, _ => h.elim
  | _ :: _, [], h, _, _ => h.elim
  | v :: vs, c :: cs, h, x, hx => by
    rcases List.mem_cons.1 hx with rfl | hx
    · exact RT.one h.1
    · exact RTs2.one h.2 x hx

theorem mem_ok {val : Value} {X : V} {cs : List C} (hr : RV M β val X) (h : X.mem = some cs) : ∃ vs : List Value, val.cells = vs.toArray ∧ All2 (RC M β) vs cs ∧ ∀ v ∈ vs, v.oneCell' = true := by
  cases X with
  | c x =>
    simp only [V.mem] at h
    split at h
    · rename_i hok
      obtain rfl : [x] = cs := by simpa using h
      exact ⟨[val], one_cells (RC.one hr hok), ⟨hr, trivial⟩, fun v hv => by rw [List.mem_singleton.1 hv]; exact RC.one hr hok⟩
    · cases h
  | agg xs =>
    simp only [V.mem] at h
    split at h
    · rename_i hok
      obtain rfl : xs = cs := by simpa using h
      obtain ⟨vs, rfl, h2⟩ := hr
      exact ⟨vs, rfl, h2, RCs.one h2 hok⟩
    · cases h
  | tup _ => simp [V.mem] at h

theorem RTs_C : ∀ {vs : List Value} {ts : List T}, All2 (RT M) vs ts → All2 (RC M β) vs (ts.map .t)
  | [], [], _ => trivial
  | [], _ :: _, h => h.elim
  | _ :: _, [], h => h.elim
  | _ :: _, _ :: _, h => ⟨h.1, RTs_C h.2⟩

theorem plain_C : ∀ {z : List Value}, z.all plain = true → All2 (RC M β) z (z.map C.p)
  | [], _ => trivial
  | x :: z, h => by
    simp only [List.all_cons, Bool.and_eq_true] at h
    refine ⟨?_, plain_C h.2⟩
    show RT M x (.v x)
    unfold RT
    exact ⟨rfl, h.1⟩
theorem plain_T : ∀ {z : List Value}, z.all plain = true → All2 (RT M) z (z.map T.v)
  | [], _ => trivial
  | x :: z, h => by
    simp only [List.all_cons, Bool.and_eq_true] at h
    refine ⟨?_, plain_T h.2⟩
    unfold RT
    exact ⟨rfl, h.1⟩

theorem mk_ok {agg : Bool} {cs : List C} {v : V} {vs : List Value} (h : mk agg cs = some v) (hr : All2 (RC M β) vs cs) :
    RV M β (if agg then .agg vs.toArray else vs.headD undef) v ∧ (agg = false → ∃ x, vs = [x]) := by
  unfold mk at h
  cases agg with
  | true =>
    obtain rfl : V.agg cs = v := by simpa using h
    exact ⟨⟨vs, rfl, hr⟩, fun h => by cases h⟩
  | false =>
    match cs, h with
    | [c], h =>
      obtain rfl : V.c c = v := by simpa using h
      match vs, hr with
      | [x], hr => exact ⟨hr.1, fun _ => ⟨x, rfl⟩⟩
end

theorem Addr.add_mid' (b o j : Nat) : (⟨b, o, none⟩ : Addr).add j = ⟨b, o + j, none⟩ := by
  unfold Addr.add; split <;> simp_all

section
variable {P : Program} {t : TypeId} {d : TD} {w : World}

/-- A variable is read. -/
theorem loadVar_ok (ht : TDok P t d) {b off : Nat} {full vs : List Value} {ty : TypeId} {fr : Nat × Nat} (hh : w.heap[b]? = some (.cells full.toArray ty fr)) (hvs : vs = (full.drop off).take d.size) (hlen : vs.length = d.size)
    (hone : d.agg = false → ∃ x, vs = [x]) : (loadVar t ⟨b, off, none⟩).run P w = .ok (if d.agg then .agg vs.toArray else vs.headD undef) w := by
  have hc : ∀ j v, vs[j]? = some v → w.cell? ((⟨b, off, none⟩ : Addr).add j) = some v := fun j v hj => by
    rw [Addr.add_mid', cell_of_row w b _ _ ty fr hh]
    rw [hvs, List.getElem?_take] at hj
    split at hj
    · simpa using hj
    · cases hj
  unfold loadVar
  simp only [Sem.run_bind, ht.run_isAgg, Result.andThen_ok]
  cases ha : d.agg with
  | true =>
    have := run_loadCells_list (P := P) w ⟨b, off, none⟩ vs hc
    rw [hlen] at this
    simp [ht.run_size, this]
  | false =>
    obtain ⟨x, rfl⟩ := hone ha
    have h0 := hc 0 x (by simp)
    rw [Addr.add_mid'] at h0
    simp only [Nat.add_zero] at h0
    simp [h0]

/-- A variable is written. -/
theorem storeVar_ok (ht : TDok P t d) {b off : Nat} {full vs : List Value} {ty : TypeId} {val : Value} (hh : w.heap[b]? = some (.cells full.toArray ty (0, 0))) (hv : val.cells = vs.toArray) (hlen : vs.length = d.size) (h1 : ∀ v ∈ vs, v.oneCell' = true)
    (hfit : off + d.size ≤ full.length) : (storeVar t ⟨b, off, none⟩ val).run P w = .ok () (w.setRow b (full.take off ++ vs ++ full.drop (off + d.size)).toArray) := by
  have hst := run_storeCells_at (P := P) b off ty vs 0 full.toArray w hh (by simp; omega) h1
  unfold storeVar
  simp only [Sem.run_bind, ht.run_size, Result.andThen_ok, hv]
  rw [if_neg (by simp [hlen])]
  simpa [hlen] using hst

theorem run_newRow (elem : TypeId) (cells : Array Value) : (newRow elem cells).run P w = .ok ⟨w.heap.size, 0, none⟩ (w.alloc (.cells cells elem)) := by
  simp [newRow]
end

theorem grownBy_setRow (w : World) (b : Nat) (cs : Array Value) : w.grownBy (w.setRow b cs) (some b) :=
  ⟨rfl, rfl, rfl, by simp, fun k _ hk => setRow_other w b k cs (by simpa using hk)⟩

section
variable {B : Fr} {w0 w : World} {M : Mem} {β : Bet} {st : Tr Blk} {n : Nat}
/-- A new block. -/
theorem Inv.new (h : Inv B w0 M β st n w) (hn : ¬ B.hi n) {full : List Value} {ty : TypeId} {b : Blk} {tot : Nat} (hb : HB M (β.ext n (w.heap.size, tot)) (w.alloc (.cells full.toArray ty)) (w.heap.size, tot) b) :
    Inv B w0 M (β.ext n (w.heap.size, tot)) (st.set n b) (n + 1) (w.alloc (.cells full.toArray ty)) :=
  h.fresh hn (World.grownBy_alloc w _ none) (Nat.le_refl _) hb
end
end Go.Proofs.Sg
