/- The frame, part S: a region that runs in any order does what the text's order does. -/
import Derived.Test.YtcijgahloogooaaFrR
namespace Go.Proofs.Sg
open Go.RowKit

theorem writes_u {kk : K} {s : S} {ins : Ins} {v : V} {u : List (Nat × Blk)} {n : Nat} (h : evOpU kk s ins = some (v, u, n)) (hw : ins.writes = false) : u = [] := by
  cases ins <;> first | (cases hw; done) | skip
  all_goals
    simp only [evOpU, evIns] at h
    repeat' split at h
  all_goals first
    | (cases h; done)
    | (obtain ⟨_, _, h⟩ := map_some h; simp only [Prod.mk.injEq] at h; exact h.2.1.symm)
    | (simp only [Option.some.injEq, Prod.mk.injEq] at h; exact h.2.1.symm)

theorem clash_not {a b : List Nat} (h : clash a b = false) : ∀ x ∈ a, x ∉ b := by
  intro x hx hb
  have : clash a b = true := List.any_eq_true.2 ⟨x, hx, by simpa using hb⟩
  rw [h] at this
  cases this

theorem slimOps_get {tt : TT} {nt : Nat} {ops : Array Oper} : ∀ {os : List Oper} {l : List Op1}, slimOps tt nt ops os = some l → l.length = os.length ∧ ∀ (i : Nat) (o : Oper), os[i]? = some o → ∃ x, l[i]? = some x ∧ slimOp tt nt ops o = some x
  | [], l, h => by
    obtain rfl : [] = l := by simpa [slimOps] using h
    exact ⟨rfl, fun i o h => by simp at h⟩
  | o :: os, l, h => by
    simp only [slimOps] at h
    split at h
    · rename_i x ys hx hys
      obtain rfl : x :: ys = l := by simpa using h
      obtain ⟨h1, h2⟩ := slimOps_get hys
      refine ⟨by simp [h1], fun i o' ho => ?_⟩
      cases i with
      | zero => obtain rfl : o = o' := by simpa using ho
                exact ⟨x, by simp, hx⟩
      | succ i => exact h2 i o' (by simpa using ho)
    · cases h

theorem ov_none {α : Type} : ∀ (us : List (List (Nat × α))) (t : Tr α), ov us (fun _ => false) t = t
  | [], _ => rfl
  | _ :: us, t => by simp only [ov]; exact ov_none us t

def tmUs (xs : List (Op1 × List Nat × Bool)) (es : List Ev) : List (List (Nat × V)) := List.zipWith (fun x e => upd1 x.1.dst e.v) xs es
def stUs (es : List Ev) : List (List (Nat × Blk)) := es.map (·.u)

theorem sAt_zero (xs : List (Op1 × List Nat × Bool)) (es : List Ev) (s : S) : sAt xs es s 0 = s := by
  cases xs <;> cases es <;> rfl

theorem sAt_st : ∀ (xs : List (Op1 × List Nat × Bool)) (es : List Ev) (s : S) (i : Nat), es.length = xs.length → i ≤ xs.length → (sAt xs es s i).st = ov (stUs es) (fun j => decide (j < i)) s.st ∧ (sAt xs es s i).tm = ov (tmUs xs es) (fun j => decide (j < i)) s.tm
  | xs, es, s, 0, _, _ => by
    rw [sAt_zero]
    simp only [Nat.not_lt_zero, decide_false]
    exact ⟨(ov_none _ _).symm, (ov_none _ _).symm⟩
  | [], _, s, i + 1, _, h => by simp at h
  | x :: xs, [], s, i + 1, h, _ => by simp at h
  | x :: xs, e :: es, s, i + 1, hl, h => by
    obtain ⟨h1, h2⟩ := sAt_st xs es (stepE x.1 e s) i (by simpa using hl) (by simpa using h)
    have hL : (fun j => decide (j + 1 < i + 1)) = fun j => decide (j < i) := by funext j; congr 1; exact propext ⟨fun h => by omega, fun h => by omega⟩
    simp only [sAt, stUs, tmUs, List.map_cons, List.zipWith_cons_cons, ov, hL]
    refine ⟨?_, ?_⟩
    · rw [h1]
      simp [stepE, putAll_G, stUs]
    · rw [h2]
      simp [stepE, put_G, tmUs]

theorem sAt_succ : ∀ (xs : List (Op1 × List Nat × Bool)) (es : List Ev) (s : S) (i : Nat) (x : Op1 × List Nat × Bool) (e : Ev), xs[i]? = some x → es[i]? = some e → sAt xs es s (i + 1) = stepE x.1 e (sAt xs es s i)
  | [], _, _, i, _, _, h, _ => by simp at h
  | _ :: _, [], _, i, _, _, _, h => by simp at h
  | x :: xs, e :: es, s, 0, x', e', h1, h2 => by
    obtain rfl : x = x' := by simpa using h1
    obtain rfl : e = e' := by simpa using h2
    rw [show sAt (x :: xs) (e :: es) s (0 + 1) = sAt xs es (stepE x.1 e s) 0 from rfl, sAt_zero, sAt_zero]
  | x :: xs, e :: es, s, i + 1, x', e', h1, h2 => by
    simp only [sAt]
    exact sAt_succ xs es _ i x' e' (by simpa using h1) (by simpa using h2)

/-! ### What is known of the region and of the text's run -/
structure Ctx (tt : TT) (nt : Nat) (kk : K) (ops : Array Oper) (xs : List (Op1 × List Nat × Bool)) (es : List Ev) (bs : List Nat) (s : S) : Prop where
  len : xs.length = ops.size
  elen : es.length = ops.size
  slim : ∀ (i : Nat) (o : Oper) (x : Op1 × List Nat × Bool), ops[i]? = some o → xs[i]? = some x → slimOp tt nt ops o = some x.1
  fact : ∀ (i : Nat) (x : Op1 × List Nat × Bool) (e : Ev), xs[i]? = some x → es[i]? = some e → OpFact kk (sAt xs es s i) x.1 e
  lt : ∀ (i : Nat) (o : Oper), ops[i]? = some o → ∀ e ∈ ons o, e < i
  bef : ∀ (i j : Nat) (o : Oper), ops[i]? = some o → j < i → bfAt bs i j = true → ∃ e ∈ ons o, e = j ∨ (j < e ∧ bfAt bs e j = true)
  apart : ∀ (i j : Nat) (xi xj : Op1 × List Nat × Bool), j < i → bfAt bs i j = false → xs[i]? = some xi → xs[j]? = some xj → apart1 xj.1 xi.1 = true
  free : ∀ (i j : Nat) (xi xj : Op1 × List Nat × Bool) (ei ej : Ev), j < i → bfAt bs i j = false → xs[i]? = some xi → xs[j]? = some xj → es[i]? = some ei → es[j]? = some ej → ei.w = true → ej.w = true →
    quiet xj.1.ins xi.1.ins = true ∨ (footE (sAt xs es s i) i xi.1 ei).free (footE (sAt xs es s j) j xj.1 ej) = true

theorem ctx_of {tt : TT} {nt : Nat} {kk : K} {ops : Array Oper} {xs : List (Op1 × List Nat × Bool)} {s s' : S} (hs : slimDrw tt nt ops = some xs) (he : evDrw kk 0 xs [] s = some s') :
    ∃ es, Ctx tt nt kk ops xs es (befores ops.toList []) s ∧ sAt xs es s ops.size = s' := by
  unfold slimDrw at hs
  split at hs
  · cases hs
  · rename_i l hl
    split at hs
    · rename_i hok
      obtain rfl : _ = xs := by simpa using hs
      generalize hbs : befores ops.toList [] = bs at *
      generalize hxs : plan (chksOf bs l l 0) l 0 = xs at *
      have hmap : xs.map (·.1) = l := by rw [← hxs]; exact plan_map _ l 0
      obtain ⟨hll, hget⟩ := slimOps_get hl
      have hlen : xs.length = ops.size := by
        have : (xs.map (·.1)).length = ops.toList.length := by rw [hmap, hll]
        simpa using this
      obtain ⟨es, e1, e2, e3, _, e5⟩ := evDrw_trace kk xs 0 [] s s' he
      have hall : ∀ i oi xi, ops[i]? = some oi → xs[i]? = some xi → (ons oi).all (fun e => decide (e < i)) = true ∧ ∀ j xj, j < i → xs[j]? = some xj → pairOk bs i j oi xi xj = true := by
        intro i oi xi hoi hxi
        have hi : i < ops.size := (Array.getElem?_eq_some_iff.1 hoi).1
        have h1 := List.all_eq_true.1 hok i (List.mem_range.2 hi)
        simp only [hoi, hxi, Bool.and_eq_true] at h1
        refine ⟨h1.1, fun j xj hj hxj => ?_⟩
        have h2 := List.all_eq_true.1 h1.2 j (List.mem_range.2 hj)
        simpa only [hxj] using h2
      have hopx : ∀ i x, xs[i]? = some x → ∃ o, ops[i]? = some o := fun i x hx => by
        have hi : i < xs.length := (List.getElem?_eq_some_iff.1 hx).1
        exact ⟨ops[i]'(by omega), Array.getElem?_eq_getElem (by omega)⟩
      have hxop : ∀ i o, ops[i]? = some o → ∃ x, xs[i]? = some x := fun i o ho => by
        have hi : i < ops.size := (Array.getElem?_eq_some_iff.1 ho).1
        exact ⟨xs[i]'(by omega), List.getElem?_eq_getElem (by omega)⟩
      refine ⟨es, ⟨hlen, by omega, ?_, e3, ?_, ?_, ?_, ?_⟩, by rw [← hlen]; exact e2⟩
      · intro i o x ho hx
        obtain ⟨y, hy, hsl⟩ := hget i o (by simpa using ho)
        rw [← hmap, List.getElem?_map, hx] at hy
        obtain rfl : x.1 = y := by simpa using hy
        exact hsl
      · intro i o ho e hm
        obtain ⟨x, hx⟩ := hxop i o ho
        have := List.all_eq_true.1 (hall i o x ho hx).1 e hm
        simpa using this
      · intro i j o ho hj hb
        obtain ⟨x, hx⟩ := hxop i o ho
        have hi : i < ops.size := (Array.getElem?_eq_some_iff.1 ho).1
        have h1 := (hall i o x ho hx).2 j _ hj (List.getElem?_eq_getElem (show j < xs.length by omega))
        unfold pairOk at h1
        rw [if_pos hb] at h1
        obtain ⟨e, hm, h2⟩ := List.any_eq_true.1 h1
        simp only [Bool.or_eq_true, beq_iff_eq, Bool.and_eq_true, decide_eq_true_eq] at h2
        exact ⟨e, hm, h2⟩
      · intro i j xi xj hj hb hxi hxj
        obtain ⟨oi, hoi⟩ := hopx i xi hxi
        have h1 := (hall i oi xi hoi hxi).2 j xj hj hxj
        unfold pairOk at h1
        rw [if_neg (by rw [hb]; simp)] at h1
        simp only [Bool.and_eq_true] at h1
        exact h1.1
      · intro i j xi xj ei ej hj hb hxi hxj hei hej hwi hwj
        obtain ⟨oi, hoi⟩ := hopx i xi hxi
        have h1 := (hall i oi xi hoi hxi).2 j xj hj hxj
        unfold pairOk at h1
        rw [if_neg (by rw [hb]; simp)] at h1
        simp only [Bool.and_eq_true, Bool.or_eq_true] at h1
        rcases h1.2 with h2 | ⟨h2, h3⟩
        · exact .inl h2
        · have := e5 i j xi xj ei ej hj hxi hei hxj hej hwi hwj h3 (by simpa using h2)
          simp only [Nat.zero_add] at this
          exact .inr this
    · cases hs

section
variable {tt : TT} {nt : Nat} {kk : K} {ops : Array Oper} {xs : List (Op1 × List Nat × Bool)} {es : List Ev} {bs : List Nat} {s : S}

def rdsE (s : S) (x : Op1) (e : Ev) : List Nat := if e.w && x.ins.reads then x.ins.opds.flatMap fun y => (s.rd y).ids else []

/-- Neither waits for the other. -/
def Un (bs : List Nat) (i j : Nat) : Prop := i ≠ j ∧ (j < i → bfAt bs i j = false) ∧ (i < j → bfAt bs j i = false)

theorem Ctx.keys_nil (h : Ctx tt nt kk ops xs es bs s) {i : Nat} {x : Op1 × List Nat × Bool} {e : Ev} (hx : xs[i]? = some x) (he : es[i]? = some e) (hw : e.w = false ∨ x.1.ins.writes = false) : e.u = [] := by
  obtain ⟨_, _, _, h4⟩ := h.fact i x e hx he
  cases hew : e.w with
  | false => rw [hew] at h4; simp only [Bool.false_eq_true, if_false] at h4; exact h4.2.1
  | true =>
    rw [hew] at h4
    simp only [if_true] at h4
    exact writes_u h4 (hw.resolve_left (by rw [hew]; simp))

theorem Ctx.disj (h : Ctx tt nt kk ops xs es bs s) {i j : Nat} {xi xj : Op1 × List Nat × Bool} {ei ej : Ev} (hj : j < i) (hb : bfAt bs i j = false) (hxi : xs[i]? = some xi) (hxj : xs[j]? = some xj) (hei : es[i]? = some ei) (hej : es[j]? = some ej) :
    (∀ id ∈ keys ei.u, id ∉ keys ej.u) ∧ (∀ id ∈ keys ei.u, id ∉ rdsE (sAt xs es s j) xj.1 ej) ∧ (∀ id ∈ rdsE (sAt xs es s i) xi.1 ei, id ∉ keys ej.u) := by
  cases hwi : ei.w with
  | false =>
    have h1 := h.keys_nil hxi hei (.inl hwi)
    simp [h1, keys, rdsE, hwi]
  | true =>
    cases hwj : ej.w with
    | false =>
      have h1 := h.keys_nil hxj hej (.inl hwj)
      simp [h1, keys, rdsE, hwj]
    | true =>
      rcases h.free i j xi xj ei ej hj hb hxi hxj hei hej hwi hwj with hq | hq
      · unfold quiet at hq
        simp only [Bool.or_eq_true, Bool.and_eq_true, Bool.not_eq_true'] at hq
        rcases hq with (⟨h1, h2⟩ | ⟨h1, h2⟩) | ⟨h1, h2⟩
        · have k1 := h.keys_nil hxi hei (.inr h2)
          have k2 := h.keys_nil hxj hej (.inr h1)
          simp [k1, k2, keys]
        · have k2 := h.keys_nil hxj hej (.inr h2)
          simp [k2, keys, rdsE, h1]
        · have k1 := h.keys_nil hxi hei (.inr h2)
          simp [k1, keys, rdsE, h1]
      · unfold Foot.free footE footOf at hq
        simp only [Bool.and_eq_true, Bool.not_eq_true'] at hq
        obtain ⟨⟨h1, h2⟩, h3⟩ := hq
        refine ⟨clash_not h2, ?_, ?_⟩
        · intro id hid hr
          refine clash_not h1 id hid ?_
          unfold rdsE at hr
          rw [hwj, Bool.true_and] at hr
          exact hr
        · intro id hid
          refine clash_not h3 id ?_
          unfold rdsE at hid
          rw [hwi, Bool.true_and] at hid
          exact hid

theorem Ctx.un (h : Ctx tt nt kk ops xs es bs s) {i j : Nat} {xi xj : Op1 × List Nat × Bool} {ei ej : Ev} (hu : Un bs i j) (hxi : xs[i]? = some xi) (hxj : xs[j]? = some xj) (hei : es[i]? = some ei) (hej : es[j]? = some ej) :
    (∀ d, xj.1.dst = some d → d ∉ xi.1.looks ∧ xi.1.dst ≠ some d) ∧ (∀ id ∈ keys ei.u, id ∉ keys ej.u) ∧ (∀ id ∈ rdsE (sAt xs es s i) xi.1 ei, id ∉ keys ej.u) := by
  obtain ⟨hne, h1, h2⟩ := hu
  rcases Nat.lt_or_gt_of_ne hne with hlt | hgt
  · -- i < j
    have hb := h2 hlt
    obtain ⟨d1, d2, d3⟩ := h.disj hlt hb hxj hxi hej hei
    have ha := h.apart j i xj xi hlt hb hxj hxi
    refine ⟨fun d hd => ?_, fun id h1 h2 => d1 id h2 h1, fun id h1 h2 => d2 id h2 h1⟩
    unfold apart1 at ha
    simp only [hd, Bool.and_eq_true, Bool.not_eq_true'] at ha
    refine ⟨by simpa using ha.2, fun e => ?_⟩
    have h3 := ha.1
    rw [e] at h3
    simp at h3
  · have hb := h1 hgt
    obtain ⟨d1, d2, d3⟩ := h.disj hgt hb hxi hxj hei hej
    have ha := h.apart i j xi xj hgt hb hxi hxj
    refine ⟨fun d hd => ?_, d1, d3⟩
    unfold apart1 at ha
    simp only [hd, Bool.and_eq_true, Bool.not_eq_true'] at ha
    exact ⟨by simpa using ha.1.1, by simpa using ha.1.2⟩

/-- What has run holds what it waited for. -/
def ClosedL (ops : Array Oper) (L : Nat → Bool) : Prop := ∀ i o, ops[i]? = some o → L i = true → ∀ e ∈ ons o, L e = true

theorem Ctx.before_in (h : Ctx tt nt kk ops xs es bs s) {L : Nat → Bool} (hL : ClosedL ops L) : ∀ (i : Nat) (o : Oper), ops[i]? = some o → (∀ e ∈ ons o, L e = true) → ∀ j, j < i → bfAt bs i j = true → L j = true := by
  intro i
  induction i using Nat.strongRecOn with
  | _ i ih =>
    intro o ho hons j hj hb
    obtain ⟨e, hm, hc⟩ := h.bef i j o ho hj hb
    rcases hc with rfl | ⟨hje, hbe⟩
    · exact hons _ hm
    · have hlt := h.lt i o ho e hm
      have hsz : i < ops.size := (Array.getElem?_eq_some_iff.1 ho).1
      have hoe : ops[e]? = some (ops[e]'(by omega)) := Array.getElem?_eq_getElem (by omega)
      exact ih e hlt _ hoe (hL e _ hoe (hons e hm)) j hje hbe

theorem Ctx.agree (h : Ctx tt nt kk ops xs es bs s) {L : Nat → Bool} (hL : ClosedL ops L) {i : Nat} {o : Oper} (ho : ops[i]? = some o) (hi : L i = false) (hons : ∀ e ∈ ons o, L e = true) (j : Nat) (hj : j < ops.size) :
    Un bs i j ∨ L j = decide (j < i) := by
  rcases Nat.lt_trichotomy j i with hlt | rfl | hgt
  · cases hb : bfAt bs i j with
    | true => exact .inr (by rw [h.before_in hL i o ho hons j hlt hb]; simp [hlt])
    | false => exact .inl ⟨by omega, fun _ => hb, fun h => by omega⟩
  · exact .inr (by rw [hi]; simp)
  · cases hb : bfAt bs j i with
    | false => exact .inl ⟨by omega, fun h => by omega, fun _ => hb⟩
    | true =>
      refine .inr ?_
      cases hLj : L j with
      | false => simp; omega
      | true =>
        have hoj : ops[j]? = some (ops[j]'hj) := Array.getElem?_eq_getElem hj
        have := h.before_in hL j _ hoj (hL j _ hoj hLj) i hgt hb
        rw [hi] at this
        cases this
end
end Go.Proofs.Sg
