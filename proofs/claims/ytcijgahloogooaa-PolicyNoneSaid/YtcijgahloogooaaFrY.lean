/- The frame, part Y: the evaluator as a machine whose steps are equations. -/
import Derived.Test.YtcijgahloogooaaFrX
namespace Go.Proofs.Sg

inductive Kt where
  | seq (c : SC)
  | blk (id : Nat)
  | loop (n : Nat) (c : SC)

section
variable (kk : K) (L : Nat)

/-- What is done behind a piece of code. -/
def goK : List Kt → Option (Ex × S) → Option (Ex × S)
  | [], r => r
  | .seq c :: ks, some (.norm, s) => goK ks (evC kk L c s)
  | .seq _ :: ks, r => goK ks r
  | .blk id :: ks, some (.exit j, s) => goK ks (if j = id then some (.norm, s) else some (.exit j, s))
  | .blk _ :: ks, r => goK ks r
  | .loop n c :: ks, some (.norm, s) => goK ks (iter n (evC kk L c) s)
  | .loop _ _ :: ks, r => goK ks r

def goC (ks : List Kt) (c : SC) (s : S) : Option (Ex × S) := goK kk L ks (evC kk L c s)
def goN (ks : List Kt) (s : S) : Option (Ex × S) := goK kk L ks (some (.norm, s))
def goE (ks : List Kt) (id : Nat) (s : S) : Option (Ex × S) := goK kk L ks (some (.exit id, s))
def goR (ks : List Kt) (s : S) : Option (Ex × S) := goK kk L ks (some (.ret, s))
def goI (n : Nat) (c : SC) (ks : List Kt) (s : S) : Option (Ex × S) := goK kk L ks (iter n (evC kk L c) s)
def goO (os : List Op1) (ks : List Kt) (s : S) : Option (Ex × S) := goK kk L ks ((evOps kk os s).map (Prod.mk .norm))
def goD (i : Nat) (os : List (Op1 × List Nat × Bool)) (fs : List Foot) (ks : List Kt) (s : S) : Option (Ex × S) := goK kk L ks ((evDrw kk i os fs s).map (Prod.mk .norm))
def goB (x : V) (a b : SC) (ks : List Kt) (s : S) : Option (Ex × S) := match x with
  | .c (.t (.v (.bool t))) => if t = true then goC kk L ks a s else goC kk L ks b s
  | _ => none
def goA (d : Option Nat) (os : List Op1) (ks : List Kt) (tm : Tr V) (x : Option (V × Tr Blk × Nat)) : Option (Ex × S) := match x with
  | some (v, st, n) => goO kk L os ks ⟨put tm d v, st, n⟩
  | none => none
def goG (x : Option V) (b : Bool) (d : Option Nat) (ins : Ins) (os : List Op1) (ks : List Kt) (s : S) : Option (Ex × S) := match x with
  | some (.c (.t (.v (.bool b')))) => if b' = b then goA kk L d os ks s.tm (evOp kk s ins) else goO kk L os ks ⟨put s.tm d (.tup []), s.st, s.n⟩
  | some (.tup []) => goO kk L os ks ⟨put s.tm d (.tup []), s.st, s.n⟩
  | _ => none
def goAD (i : Nat) (d : Option Nat) (ins : Ins) (chk : List Nat) (rc : Bool) (os : List (Op1 × List Nat × Bool)) (fs : List Foot) (ks : List Kt) (s : S) (x : Out) : Option (Ex × S) := match x with
  | some (v, u, n) => if freeOf (footOf s i ins u) chk fs = true ∧ u.all (fun p => decide (p.1 < n)) = true ∧ s.n ≤ n then goD kk L (i + 1) os (if rc = true then footOf s i ins u :: fs else fs) ks ⟨put s.tm d v, putAll s.st u, n⟩ else none
  | none => none
def goGD (x : Option V) (b : Bool) (i : Nat) (d : Option Nat) (ins : Ins) (chk : List Nat) (rc : Bool) (os : List (Op1 × List Nat × Bool)) (fs : List Foot) (ks : List Kt) (s : S) : Option (Ex × S) := match x with
  | some (.c (.t (.v (.bool b')))) => if b' = b then goAD kk L i d ins chk rc os fs ks s (evOpU kk s ins) else goD kk L (i + 1) os fs ks ⟨put s.tm d (.tup []), s.st, s.n⟩
  | some (.tup []) => goD kk L (i + 1) os fs ks ⟨put s.tm d (.tup []), s.st, s.n⟩
  | _ => none
end

section
variable {kk : K} {L : Nat} {ks : List Kt} {s : S} {a b c : SC} {n id j : Nat}

theorem goK_none : ∀ ks, goK kk L ks none = none
  | [] => rfl
  | .seq _ :: ks => by simp only [goK]; exact goK_none ks
  | .blk _ :: ks => by simp only [goK]; exact goK_none ks
  | .loop _ _ :: ks => by simp only [goK]; exact goK_none ks

theorem goK_seq (r : Option (Ex × S)) : goK kk L (.seq c :: ks) r = goK kk L ks (match r with | some (.norm, s) => evC kk L c s | r => r) := by
  match r with
  | none => rfl
  | some (.norm, s) => rfl
  | some (.exit j, s) => rfl
  | some (.ret, s) => rfl
theorem goK_blk (r : Option (Ex × S)) : goK kk L (.blk id :: ks) r = goK kk L ks (match r with | some (.exit j, s') => if j = id then some (.norm, s') else some (.exit j, s') | r => r) := by
  match r with
  | none => rfl
  | some (.norm, s) => rfl
  | some (.exit j, s) => rfl
  | some (.ret, s) => rfl
theorem goK_loop (r : Option (Ex × S)) : goK kk L (.loop n c :: ks) r = goK kk L ks (match r with | some (.norm, s) => iter n (evC kk L c) s | r => r) := by
  match r with
  | none => rfl
  | some (.norm, s) => rfl
  | some (.exit j, s) => rfl
  | some (.ret, s) => rfl

theorem goC_skip : goC kk L ks .skip s = goN kk L ks s := rfl
theorem goC_seq : goC kk L ks (.seq a b) s = goC kk L (.seq b :: ks) a s := by
  unfold goC; rw [goK_seq]; rfl
theorem goC_block : goC kk L ks (.block id c) s = goC kk L (.blk id :: ks) c s := by
  unfold goC; rw [goK_blk]; rfl
theorem goC_loop : goC kk L ks (.loop c) s = goI kk L L c ks s := rfl
theorem goC_exit : goC kk L ks (.exit id) s = goE kk L ks id s := rfl
theorem goC_ret : goC kk L ks .ret s = goR kk L ks s := rfl
theorem goC_reg {os : List Op1} : goC kk L ks (.reg os) s = goO kk L os ks s := rfl
theorem goC_drw {os : List (Op1 × List Nat × Bool)} : goC kk L ks (.drw os) s = goD kk L 0 os [] ks s := rfl
theorem goC_cond {x : Opd} : goC kk L ks (.cond x a b) s = goB kk L (s.rd x) a b ks s := by
  unfold goC goB
  simp only [evC]
  generalize s.rd x = v
  split
  · rename_i t
    cases t <;> rfl
  · rename_i h
    split
    · rename_i t
      exact absurd rfl (h t)
    · rw [goK_none]
theorem goB_bool {t : Bool} : goB kk L (V.bool t) a b ks s = if t = true then goC kk L ks a s else goC kk L ks b s := rfl
theorem goI_succ : goI kk L (n + 1) c ks s = goC kk L (.loop n c :: ks) c s := by
  unfold goI goC
  rw [goK_loop]
  rfl
theorem goN_nil : goN kk L [] s = some (.norm, s) := rfl
theorem goN_seq : goN kk L (.seq c :: ks) s = goC kk L ks c s := rfl
theorem goN_blk : goN kk L (.blk id :: ks) s = goN kk L ks s := rfl
theorem goN_loop : goN kk L (.loop n c :: ks) s = goI kk L n c ks s := rfl
theorem goE_nil : goE kk L [] j s = some (.exit j, s) := rfl
theorem goE_seq : goE kk L (.seq c :: ks) j s = goE kk L ks j s := rfl
theorem goE_blk : goE kk L (.blk id :: ks) j s = if j = id then goN kk L ks s else goE kk L ks j s := by
  unfold goE goN; simp only [goK]; split <;> rfl
theorem goE_loop : goE kk L (.loop n c :: ks) j s = goE kk L ks j s := rfl
theorem goR_nil : goR kk L [] s = some (.ret, s) := rfl
theorem goR_seq : goR kk L (.seq c :: ks) s = goR kk L ks s := rfl
theorem goR_blk : goR kk L (.blk id :: ks) s = goR kk L ks s := rfl
theorem goR_loop : goR kk L (.loop n c :: ks) s = goR kk L ks s := rfl

theorem goO_nil : goO kk L [] ks s = goN kk L ks s := rfl
theorem goO_cons {d : Option Nat} {ins : Ins} {os : List Op1} : goO kk L (⟨d, ins, none⟩ :: os) ks s = goA kk L d os ks s.tm (evOp kk s ins) := by
  unfold goO goA
  simp only [evOps, wantedS]
  cases evOp kk s ins with
  | none => exact goK_none ks
  | some x => rfl
theorem goO_guard {d : Option Nat} {ins : Ins} {os : List Op1} {t : Nat} {b : Bool} : goO kk L (⟨d, ins, some (t, b)⟩ :: os) ks s = goG kk L (s.tm.get t) b d ins os ks s := by
  unfold goO goG
  simp only [evOps, wantedS]
  generalize s.tm.get t = v
  match v with
  | none => exact goK_none ks
  | some (.tup []) => rfl
  | some (.tup (_ :: _)) => exact goK_none ks
  | some (.agg _) => exact goK_none ks
  | some (.c (.t (.v (.bool b')))) =>
    dsimp only
    by_cases h : b' = b
    · subst h
      simp only [beq_self_eq_true, if_true]
      unfold goA
      cases evOp kk s ins with
      | none => exact goK_none ks
      | some x => rfl
    · rw [if_neg h]
      have h' : (b' == b) = false := by simpa using h
      rw [h']
      rfl
  | some (.c (.t (.v (.int _ _)))) | some (.c (.t (.v (.float _ _)))) | some (.c (.t (.v (.complex _ _ _)))) | some (.c (.t (.v (.string _)))) | some (.c (.t (.v (.pointer _)))) | some (.c (.t (.v (.slice _ _ _)))) | some (.c (.t (.v (.map _))))
  | some (.c (.t (.v (.chan _)))) | some (.c (.t (.v (.func _ _ _)))) | some (.c (.t (.v .nilFunc))) | some (.c (.t (.v (.iface _ _)))) | some (.c (.t (.v .nilIface))) | some (.c (.t (.v (.agg _)))) | some (.c (.t (.v (.tuple _))))
  | some (.c (.t (.sl _ _))) | some (.c (.t (.fn _ _))) | some (.c (.ptr _ _)) | some (.c (.own _ _ _ _)) | some (.c (.tp _)) | some (.c (.clo _ _)) | some (.c (.mp _)) | some (.c .any) => exact goK_none ks
theorem goA_some {d : Option Nat} {os : List Op1} {tm : Tr V} {v : V} {st : Tr Blk} : goA kk L d os ks tm (some (v, st, n)) = goO kk L os ks ⟨put tm d v, st, n⟩ := rfl
theorem goG_some {b b' : Bool} {d : Option Nat} {ins : Ins} {os : List Op1} : goG kk L (some (V.bool b')) b d ins os ks s = if b' = b then goA kk L d os ks s.tm (evOp kk s ins) else goO kk L os ks ⟨put s.tm d (.tup []), s.st, s.n⟩ := rfl

theorem goD_nil {fs : List Foot} {i : Nat} : goD kk L i [] fs ks s = goN kk L ks s := rfl
theorem goD_cons {i : Nat} {d : Option Nat} {ins : Ins} {chk : List Nat} {rc : Bool} {fs : List Foot} {os : List (Op1 × List Nat × Bool)} : goD kk L i ((⟨d, ins, none⟩, chk, rc) :: os) fs ks s = goAD kk L i d ins chk rc os fs ks s (evOpU kk s ins) := by
  unfold goD goAD
  simp only [evDrw, wantedS]
  cases evOpU kk s ins with
  | none => exact goK_none ks
  | some x =>
    obtain ⟨v, u, m⟩ := x
    dsimp only
    by_cases h : freeOf (footOf s i ins u) chk fs = true ∧ u.all (fun p => decide (p.1 < m)) = true ∧ s.n ≤ m
    · rw [if_pos h, if_pos (by simp [h])]; rfl
    · rw [if_neg h, if_neg (by simpa [and_assoc] using h)]
      exact goK_none ks
theorem goD_guard {i : Nat} {d : Option Nat} {ins : Ins} {chk : List Nat} {rc : Bool} {fs : List Foot} {os : List (Op1 × List Nat × Bool)} {t : Nat} {b : Bool} : goD kk L i ((⟨d, ins, some (t, b)⟩, chk, rc) :: os) fs ks s = goGD kk L (s.tm.get t) b i d ins chk rc os fs ks s := by
  unfold goD goGD
  simp only [evDrw, wantedS]
  generalize s.tm.get t = v
  match v with
  | none => exact goK_none ks
  | some (.tup []) => rfl
  | some (.tup (_ :: _)) => exact goK_none ks
  | some (.agg _) => exact goK_none ks
  | some (.c (.t (.v (.bool b')))) =>
    dsimp only
    by_cases h : b' = b
    · subst h
      simp only [beq_self_eq_true, if_true]
      have := goD_cons (kk := kk) (L := L) (ks := ks) (s := s) (i := i) (d := d) (ins := ins) (chk := chk) (rc := rc) (fs := fs) (os := os)
      unfold goD at this
      simp only [evDrw, wantedS] at this
      exact this
    · rw [if_neg h]
      have h' : (b' == b) = false := by simpa using h
      rw [h']
      rfl
  | some (.c (.t (.v (.int _ _)))) | some (.c (.t (.v (.float _ _)))) | some (.c (.t (.v (.complex _ _ _)))) | some (.c (.t (.v (.string _)))) | some (.c (.t (.v (.pointer _)))) | some (.c (.t (.v (.slice _ _ _)))) | some (.c (.t (.v (.map _))))
  | some (.c (.t (.v (.chan _)))) | some (.c (.t (.v (.func _ _ _)))) | some (.c (.t (.v .nilFunc))) | some (.c (.t (.v (.iface _ _)))) | some (.c (.t (.v .nilIface))) | some (.c (.t (.v (.agg _)))) | some (.c (.t (.v (.tuple _))))
  | some (.c (.t (.sl _ _))) | some (.c (.t (.fn _ _))) | some (.c (.ptr _ _)) | some (.c (.own _ _ _ _)) | some (.c (.tp _)) | some (.c (.clo _ _)) | some (.c (.mp _)) | some (.c .any) => exact goK_none ks
theorem goAD_some {i : Nat} {d : Option Nat} {ins : Ins} {chk : List Nat} {rc : Bool} {fs : List Foot} {os : List (Op1 × List Nat × Bool)} {v : V} {u : List (Nat × Blk)} : goAD kk L i d ins chk rc os fs ks s (some (v, u, n)) = if freeOf (footOf s i ins u) chk fs = true ∧ u.all (fun p => decide (p.1 < n)) = true ∧ s.n ≤ n then goD kk L (i + 1) os (if rc = true then footOf s i ins u :: fs else fs) ks ⟨put s.tm d v, putAll s.st u, n⟩ else none := rfl
theorem goGD_some {i : Nat} {b b' : Bool} {d : Option Nat} {ins : Ins} {chk : List Nat} {rc : Bool} {fs : List Foot} {os : List (Op1 × List Nat × Bool)} : goGD kk L (some (V.bool b')) b i d ins chk rc os fs ks s = if b' = b then goAD kk L i d ins chk rc os fs ks s (evOpU kk s ins) else goD kk L (i + 1) os fs ks ⟨put s.tm d (.tup []), s.st, s.n⟩ := rfl

/-! ### Operations -/
def tmv : Option V → V
  | some v => v
  | none => .c .any
def outS (st : Tr Blk) : Out → Option (V × Tr Blk × Nat)
  | some (v, u, n) => some (v, putAll st u, n)
  | none => none
theorem rd_t {tm : Tr V} {st : Tr Blk} {i : Nat} : (S.mk tm st n).rd (.t i) = tmv (tm.get i) := by
  unfold S.rd tmv; rfl
theorem rd_k {x : Value} : s.rd (.k x) = .c (.t (.v x)) := rfl
theorem rd_f {f : Nat} : s.rd (.f f) = .c (.t (.fn f [])) := rfl
theorem tmv_some {v : V} : tmv (some v) = v := rfl
theorem put_some {tm : Tr V} {i : Nat} {v : V} : put tm (some i) v = tm.set i v := rfl
theorem put_none {tm : Tr V} {v : V} : put tm none v = tm := rfl
theorem outS_some {st : Tr Blk} {v : V} {u : List (Nat × Blk)} : outS st (some (v, u, n)) = some (v, putAll st u, n) := rfl
theorem outS_none {st : Tr Blk} : outS st none = none := rfl
/-- An operation that calls nothing. -/
def Ins.own : Ins → Bool
  | .call _ _ | .callv _ _ => false
  | _ => true
theorem evOp_own {ins : Ins} (h : ins.own = true) : evOp kk s ins = outS s.st (evIns s.st.get s.n s.rd ins) := by
  cases ins <;> first | rfl | cases h
theorem evOpU_own {ins : Ins} (h : ins.own = true) : evOpU kk s ins = evIns s.st.get s.n s.rd ins := by
  cases ins <;> first | rfl | cases h
def runS (shr : Bool) (kk : K) (f : Nat) (args : List V) (s : S) : Option (V × Tr Blk × Nat) :=
  if shr = true then kk.run f args s.st s.n else outS s.st (evCall kk s.st.get s.n f args)
theorem evOp_call {f : Nat} {xs : List Opd} : evOp kk s (.call f xs) = runS (kk.shr f) kk f (xs.map s.rd) s := by
  simp only [evOp, runS]
  split
  · rfl
  · cases evCall kk s.st.get s.n f (xs.map s.rd) <;> rfl
theorem evOpU_call {f : Nat} {xs : List Opd} : evOpU kk s (.call f xs) = if kk.shr f = true then none else evCall kk s.st.get s.n f (xs.map s.rd) := rfl
theorem runS_iso {f : Nat} {args : List V} : runS false kk f args s = outS s.st (evCall kk s.st.get s.n f args) := rfl
theorem runS_shr {f : Nat} {args : List V} : runS true kk f args s = kk.run f args s.st s.n := rfl
def runV (kk : K) (x : V) (args : List V) (s : S) : Option (V × Tr Blk × Nat) := match x with
  | .c (.clo f caps) => kk.run f (args ++ caps.map fun p => V.c (.ptr p.1 p.2)) s.st s.n
  | .c (.t (.fn f caps)) => kk.run f (args ++ caps.map fun t => V.c (.tp [t])) s.st s.n
  | _ => none
theorem evOp_callv {x : Opd} {xs : List Opd} : evOp kk s (.callv x xs) = runV kk (s.rd x) (xs.map s.rd) s := rfl
theorem runV_clo {f : Nat} {caps : List (Nat × Nat)} {args : List V} : runV kk (.c (.clo f caps)) args s = kk.run f (args ++ caps.map fun p => V.c (.ptr p.1 p.2)) s.st s.n := rfl
theorem runV_fn {f : Nat} {caps : List T} {args : List V} : runV kk (.c (.t (.fn f caps))) args s = kk.run f (args ++ caps.map fun t => V.c (.tp [t])) s.st s.n := rfl

/-- A call over trees. -/
def isoR (k : Nat) (u : List (Nat × Blk)) : Option (V × List Blk) → Out
  | some (r, nb) => if r.scalar = true ∧ nb = [] then some (r, [], k) else some (r.shift k, u ++ news k (nb.map (Blk.shift k)), k + nb.length)
  | none => none
def callR (kk : K) (k : Nat) (f : Nat) : Option (List V × List (Nat × Blk)) → Out
  | some (ts, u) => isoR k u (kk.iso f ts)
  | none => none
theorem evCall_eq {lk : Look} {k f : Nat} {args : List V} : evCall kk lk k f args = callR kk k f (toVs lk args) := by
  unfold evCall callR
  cases toVs lk args with
  | none => rfl
  | some x =>
    obtain ⟨ts, u⟩ := x
    dsimp only
    cases kk.iso f ts with
    | none => rfl
    | some y =>
      obtain ⟨r, nb⟩ := y
      unfold isoR
      dsimp only
      by_cases h : r.scalar = true ∧ nb = []
      · rw [if_pos h, if_pos (by simp [h])]
      · rw [if_neg h, if_neg (by simpa using h)]
theorem callR_some {k f : Nat} {ts : List V} {u : List (Nat × Blk)} : callR kk k f (some (ts, u)) = isoR k u (kk.iso f ts) := rfl

/-- An answer that is trees. -/
def V.tree : V → Bool
  | .c (.t _) => true
  | .c _ => false
  | .agg cs => cs.all fun c => match c with | .t _ => true | _ => false
  | .tup vs => vs.all fun v => v.2.all fun c => match c with | .t _ => true | _ => false
theorem C.shift_tree {k : Nat} {c : C} (h : (match c with | .t _ => true | _ => false) = true) : c.shift k = c := by
  cases c <;> first | rfl | cases h
theorem Cs.shift_tree {k : Nat} {cs : List C} (h : (cs.all fun c => match c with | .t _ => true | _ => false) = true) : cs.map (C.shift k) = cs := by
  rw [List.all_eq_true] at h
  conv => rhs; rw [← List.map_id cs]
  exact List.map_congr_left fun c hc => C.shift_tree (h c hc)
theorem V.shift_tree {k : Nat} {v : V} (h : v.tree = true) : v.shift k = v := by
  match v, h with
  | .c (.t _), _ => rfl
  | .agg cs, h => show V.agg _ = _; rw [Cs.shift_tree h]
  | .tup vs, h =>
    show V.tup _ = _
    congr 1
    simp only [V.tree, List.all_eq_true] at h
    conv => rhs; rw [← List.map_id vs]
    refine List.map_congr_left fun p hp => ?_
    have := Cs.shift_tree (k := k) (cs := p.2) (by rw [List.all_eq_true]; exact h p hp)
    rw [this]; rfl
theorem isoR_tree {k : Nat} {u : List (Nat × Blk)} {v : V} (h : v.tree = true) : isoR k u (some (v, [])) = some (v, if v.scalar = true then [] else u, k) := by
  unfold isoR
  dsimp only
  by_cases hs : v.scalar = true
  · rw [if_pos ⟨hs, rfl⟩, if_pos hs]
  · rw [if_neg (by simp [hs]), if_neg hs, V.shift_tree h]
    simp [news]

/-! ### Bodies -/
def endV (s : S) : Option V → Option (V × Tr Blk × Nat)
  | some v => some (v, s.st, s.n)
  | none => none
def endB (rs : List Rs) : Option (Ex × S) → Option (V × Tr Blk × Nat)
  | some (.norm, s) => endV s (resV s rs)
  | some (.ret, s) => endV s (resV s rs)
  | _ => none
def endF (z : Bool) : Option (V × Tr Blk × Nat) → Option (V × List Blk)
  | some (v, st, _) => finF z st v
  | none => none
def kOf (E : Env) (m f : Nat) : K := { iso := fun g ts => evF E m (E.frz f g) g ts, shr := E.shr, run := evR E m }
theorem kOf_iso {E : Env} {m f g : Nat} {ts : List V} : (kOf E m f).iso g ts = evF E m (E.frz f g) g ts := rfl
theorem kOf_shr {E : Env} {m f : Nat} : (kOf E m f).shr = E.shr := rfl
theorem kOf_run {E : Env} {m f : Nat} : (kOf E m f).run = evR E m := rfl

theorem evBody_go {fn : SFn} {args : List V} {st : Tr Blk} (h : args.length = fn.np) : evBody kk L fn args st n = endB fn.res (goC kk L [] fn.body ⟨args0 0 args .leaf, st, n⟩) := by
  unfold evBody endB
  rw [if_pos h]
  show (match evC kk L fn.body _ with | some (.norm, s) => _ | some (.ret, s) => _ | _ => _) = _
  unfold goC
  simp only [goK]
  cases evC kk L fn.body ⟨args0 0 args .leaf, st, n⟩ with
  | none => rfl
  | some x =>
    obtain ⟨e, s⟩ := x
    cases e <;> first | rfl | (dsimp only; cases resV s fn.res <;> rfl)
theorem evF_go {E : Env} {m f : Nat} {z : Bool} {args : List V} {fn : SFn} (hp : E.prim f = none) (hf : E.fn f = some fn) (h : args.length = fn.np) :
    evF E (m + 1) z f args = endF z (endB fn.res (goC (kOf E m f) E.L [] fn.body ⟨args0 0 args .leaf, .leaf, 0⟩)) := by
  rw [evF, hp]
  dsimp only
  rw [hf]
  dsimp only
  rw [show (K.mk (fun g ts => evF E m (E.frz f g) g ts) E.shr (evR E m)) = kOf E m f from rfl, evBody_go h]
  unfold endF
  cases endB fn.res (goC (kOf E m f) E.L [] fn.body { tm := args0 0 args Tr.leaf, st := Tr.leaf, n := 0 }) <;> rfl
theorem evR_go {E : Env} {m f : Nat} {args : List V} {st : Tr Blk} {fn : SFn} (hf : E.fn f = some fn) (h : args.length = fn.np) :
    evR E (m + 1) f args st n = endB fn.res (goC (kOf E m f) E.L [] fn.body ⟨args0 0 args .leaf, st, n⟩) := by
  rw [evR, hf]
  dsimp only
  rw [show (K.mk (fun g ts => evF E m (E.frz f g) g ts) E.shr (evR E m)) = kOf E m f from rfl, evBody_go h]
theorem endB_norm {rs : List Rs} : endB rs (some (.norm, s)) = endV s (resV s rs) := rfl
theorem endB_ret {rs : List Rs} : endB rs (some (.ret, s)) = endV s (resV s rs) := rfl
theorem endV_some {v : V} : endV s (some v) = some (v, s.st, s.n) := rfl
theorem endF_some {z : Bool} {v : V} {st : Tr Blk} : endF z (some (v, st, n)) = finF z st v := rfl
end
end Go.Proofs.Sg
