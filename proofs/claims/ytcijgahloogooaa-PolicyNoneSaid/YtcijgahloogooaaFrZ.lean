/- The frame, part Z: the machine's steps for simp. -/
import Derived.Test.YtcijgahloogooaaFrY
namespace Go.Proofs.Sg

section
variable {kk : K} {L : Nat} {ks : List Kt} {s : S} {a b : SC} {n : Nat}
theorem goB_true : goB kk L (V.bool true) a b ks s = goC kk L ks a s := rfl
theorem goB_false : goB kk L (V.bool false) a b ks s = goC kk L ks b s := rfl
variable {d : Option Nat} {ins : Ins} {os : List Op1} {i : Nat} {chk : List Nat} {rc : Bool} {fs : List Foot} {od : List (Op1 × List Nat × Bool)}
theorem goG_tt : goG kk L (some (V.bool true)) true d ins os ks s = goA kk L d os ks s.tm (evOp kk s ins) := rfl
theorem goG_tf : goG kk L (some (V.bool true)) false d ins os ks s = goO kk L os ks ⟨put s.tm d (.tup []), s.st, s.n⟩ := rfl
theorem goG_ft : goG kk L (some (V.bool false)) true d ins os ks s = goO kk L os ks ⟨put s.tm d (.tup []), s.st, s.n⟩ := rfl
theorem goG_ff : goG kk L (some (V.bool false)) false d ins os ks s = goA kk L d os ks s.tm (evOp kk s ins) := rfl
theorem goG_un {b : Bool} : goG kk L (some (.tup [])) b d ins os ks s = goO kk L os ks ⟨put s.tm d (.tup []), s.st, s.n⟩ := rfl
theorem goGD_un {b : Bool} : goGD kk L (some (.tup [])) b i d ins chk rc od fs ks s = goD kk L (i + 1) od fs ks ⟨put s.tm d (.tup []), s.st, s.n⟩ := rfl
theorem goGD_tt : goGD kk L (some (V.bool true)) true i d ins chk rc od fs ks s = goAD kk L i d ins chk rc od fs ks s (evOpU kk s ins) := rfl
theorem goGD_tf : goGD kk L (some (V.bool true)) false i d ins chk rc od fs ks s = goD kk L (i + 1) od fs ks ⟨put s.tm d (.tup []), s.st, s.n⟩ := rfl
theorem goGD_ft : goGD kk L (some (V.bool false)) true i d ins chk rc od fs ks s = goD kk L (i + 1) od fs ks ⟨put s.tm d (.tup []), s.st, s.n⟩ := rfl
theorem goGD_ff : goGD kk L (some (V.bool false)) false i d ins chk rc od fs ks s = goAD kk L i d ins chk rc od fs ks s (evOpU kk s ins) := rfl
end
def vPick (k : Nat) (c a b : V) : Out := match c with
  | .c (.t (.v (.bool t))) => some (if t then a else b, [], k)
  | _ => none
theorem vPick_true {k : Nat} {a b : V} : vPick k (V.bool true) a b = some (a, [], k) := rfl
theorem vPick_false {k : Nat} {a b : V} : vPick k (V.bool false) a b = some (b, [], k) := rfl
section
variable {lk : Look} {k : Nat} {rd : Opd → V}
theorem evI_mov {x : Opd} : evIns lk k rd (.mov x) = some (rd x, [], k) := rfl
theorem evI_pick {c a b : Opd} : evIns lk k rd (.pick c a b) = vPick k (rd c) (rd a) (rd b) := rfl
theorem evI_alloc {z : List Value} : evIns lk k rd (.alloc z) = some (.c (.ptr k 0), [(k, .box (z.map C.p))], k + 1) := rfl
def vBox (k : Nat) : Option (List C) → Out
  | some cs => some (.c (.ptr k 0), [(k, .box cs)], k + 1)
  | none => none
theorem vBox_some {cs : List C} : vBox k (some cs) = some (.c (.ptr k 0), [(k, .box cs)], k + 1) := rfl
theorem evI_box {x : Opd} : evIns lk k rd (.box x) = vBox k (rd x).mem := by
  simp only [evIns, vBox]
  cases (rd x).mem <;> rfl
def vP (k : Nat) : Option Value → Out
  | some r => some (V.p r, [], k)
  | none => none
theorem vP_some {r : Value} : vP k (some r) = some (V.p r, [], k) := rfl
def vBin (k : Nat) (o : BinOp) : V → V → Out
  | .c (.t (.v a)), .c (.t (.v b)) => vP k (bin1 o a b)
  | _, _ => none
theorem vBin_v {o : BinOp} {a b : Value} : vBin k o (.c (.t (.v a))) (.c (.t (.v b))) = vP k (bin1 o a b) := rfl
theorem evI_bin {o : BinOp} {x y : Opd} : evIns lk k rd (.bin o x y) = vBin k o (rd x) (rd y) := by
  simp only [evIns, vBin]
  generalize rd x = u
  generalize rd y = v
  split
  · rename_i a b
    dsimp only
    unfold vP
    cases bin1 o a b <;> rfl
  · rename_i h
    split
    · exact (h _ _ rfl rfl).elim
    · rfl
/-- Cells out of a block. -/
def vCells (k off n : Nat) (agg : Bool) (cs : List C) : Out := if off + n ≤ cs.length then (mk agg ((cs.drop off).take n)).map (·, [], k) else none
def vLoad (lk : Look) (k n : Nat) (agg : Bool) : V → Out
  | .c (.ptr id off) => match lk id with
    | some (.box cs) => vCells k off n agg cs
    | some (.arr _ cs) => vCells k off n agg (cs.map .t)
    | some (.frz cs) => vCells k off n agg (cs.map .t)
    | _ => none
  | .c (.tp cs) => vCells k 0 n agg (cs.map .t)
  | _ => none
def vLoadB (k n off : Nat) (agg : Bool) : Option Blk → Out
  | some (.box cs) => vCells k off n agg cs
  | some (.arr _ cs) => vCells k off n agg (cs.map .t)
  | some (.frz cs) => vCells k off n agg (cs.map .t)
  | _ => none
theorem vLoad_ptr {id off n : Nat} {agg : Bool} : vLoad lk k n agg (.c (.ptr id off)) = vLoadB k n off agg (lk id) := rfl
theorem vLoad_tp {n : Nat} {agg : Bool} {cs : List T} : vLoad lk k n agg (.c (.tp cs)) = vCells k 0 n agg (cs.map .t) := rfl
theorem vLoadB_box {n off : Nat} {agg : Bool} {cs : List C} : vLoadB k n off agg (some (.box cs)) = vCells k off n agg cs := rfl
theorem vLoadB_arr {n off e : Nat} {agg : Bool} {cs : List T} : vLoadB k n off agg (some (.arr e cs)) = vCells k off n agg (cs.map .t) := rfl
theorem vLoadB_frz {n off : Nat} {agg : Bool} {cs : List T} : vLoadB k n off agg (some (.frz cs)) = vCells k off n agg (cs.map .t) := rfl
theorem evI_load {n : Nat} {agg : Bool} {x : Opd} : evIns lk k rd (.load n agg x) = vLoad lk k n agg (rd x) := by
  simp only [evIns, vLoad, vCells]
  cases rd x with
  | c c =>
    cases c with
    | ptr id off =>
      dsimp only
      cases lk id with
      | none => rfl
      | some b => cases b <;> simp
    | tp cs => simp
    | _ => rfl
  | _ => rfl
/-- One cell out of some. -/
theorem vCells_one {off : Nat} {cs : List C} : vCells k off 1 false cs = match cs[off]? with | some c => some (.c c, [], k) | none => none := by
  unfold vCells
  by_cases h : off + 1 ≤ cs.length
  · rw [if_pos h, List.getElem?_eq_getElem (by omega)]
    rw [List.drop_eq_getElem_cons (by omega)]
    rfl
  · rw [if_neg h, List.getElem?_eq_none (by omega)]
theorem vCells_agg {off n : Nat} {cs : List C} : vCells k off n true cs = if off + n ≤ cs.length then some (.agg ((cs.drop off).take n), [], k) else none := rfl
theorem evI_fld {o : Nat} {x : Opd} : evIns lk k rd (.fld o x) = match rd x with
    | .c (.ptr id off) => some (.c (.ptr id (off + o)), [], k)
    | .c (.tp cs) => some (.c (.tp (cs.drop o)), [], k)
    | _ => none := rfl
end
theorem evOp_mov {kk : K} {s : S} {a : Opd} : evOp kk s (.mov a) = outS s.st (evIns s.st.get s.n s.rd (.mov a)) := rfl
theorem evOpU_mov {kk : K} {s : S} {a : Opd} : evOpU kk s (.mov a) = evIns s.st.get s.n s.rd (.mov a) := rfl
theorem evOp_pick {kk : K} {s : S} {a : Opd} {b : Opd} {c : Opd} : evOp kk s (.pick a b c) = outS s.st (evIns s.st.get s.n s.rd (.pick a b c)) := rfl
theorem evOpU_pick {kk : K} {s : S} {a : Opd} {b : Opd} {c : Opd} : evOpU kk s (.pick a b c) = evIns s.st.get s.n s.rd (.pick a b c) := rfl
theorem evOp_alloc {kk : K} {s : S} {a : List Value} : evOp kk s (.alloc a) = outS s.st (evIns s.st.get s.n s.rd (.alloc a)) := rfl
theorem evOpU_alloc {kk : K} {s : S} {a : List Value} : evOpU kk s (.alloc a) = evIns s.st.get s.n s.rd (.alloc a) := rfl
theorem evOp_box {kk : K} {s : S} {a : Opd} : evOp kk s (.box a) = outS s.st (evIns s.st.get s.n s.rd (.box a)) := rfl
theorem evOpU_box {kk : K} {s : S} {a : Opd} : evOpU kk s (.box a) = evIns s.st.get s.n s.rd (.box a) := rfl
theorem evOp_build {kk : K} {s : S} {a : List Value} {b : List (Nat × Nat × Opd)} : evOp kk s (.build a b) = outS s.st (evIns s.st.get s.n s.rd (.build a b)) := rfl
theorem evOpU_build {kk : K} {s : S} {a : List Value} {b : List (Nat × Nat × Opd)} : evOpU kk s (.build a b) = evIns s.st.get s.n s.rd (.build a b) := rfl
theorem evOp_bsl {kk : K} {s : S} {a : Nat} {b : List Value} {c : Nat} {d : List (Nat × Opd)} : evOp kk s (.bsl a b c d) = outS s.st (evIns s.st.get s.n s.rd (.bsl a b c d)) := rfl
theorem evOpU_bsl {kk : K} {s : S} {a : Nat} {b : List Value} {c : Nat} {d : List (Nat × Opd)} : evOpU kk s (.bsl a b c d) = evIns s.st.get s.n s.rd (.bsl a b c d) := rfl
theorem evOp_load {kk : K} {s : S} {a : Nat} {b : Bool} {c : Opd} : evOp kk s (.load a b c) = outS s.st (evIns s.st.get s.n s.rd (.load a b c)) := rfl
theorem evOpU_load {kk : K} {s : S} {a : Nat} {b : Bool} {c : Opd} : evOpU kk s (.load a b c) = evIns s.st.get s.n s.rd (.load a b c) := rfl
theorem evOp_store {kk : K} {s : S} {a : Nat} {b : Opd} {c : Opd} : evOp kk s (.store a b c) = outS s.st (evIns s.st.get s.n s.rd (.store a b c)) := rfl
theorem evOpU_store {kk : K} {s : S} {a : Nat} {b : Opd} {c : Opd} : evOpU kk s (.store a b c) = evIns s.st.get s.n s.rd (.store a b c) := rfl
theorem evOp_bin {kk : K} {s : S} {a : BinOp} {b : Opd} {c : Opd} : evOp kk s (.bin a b c) = outS s.st (evIns s.st.get s.n s.rd (.bin a b c)) := rfl
theorem evOpU_bin {kk : K} {s : S} {a : BinOp} {b : Opd} {c : Opd} : evOpU kk s (.bin a b c) = evIns s.st.get s.n s.rd (.bin a b c) := rfl
theorem evOp_beq {kk : K} {s : S} {a : Bool} {b : Opd} {c : Opd} : evOp kk s (.beq a b c) = outS s.st (evIns s.st.get s.n s.rd (.beq a b c)) := rfl
theorem evOpU_beq {kk : K} {s : S} {a : Bool} {b : Opd} {c : Opd} : evOpU kk s (.beq a b c) = evIns s.st.get s.n s.rd (.beq a b c) := rfl
theorem evOp_nileq {kk : K} {s : S} {a : Bool} {b : Bool} {c : Opd} {d : Opd} : evOp kk s (.nileq a b c d) = outS s.st (evIns s.st.get s.n s.rd (.nileq a b c d)) := rfl
theorem evOpU_nileq {kk : K} {s : S} {a : Bool} {b : Bool} {c : Opd} {d : Opd} : evOpU kk s (.nileq a b c d) = evIns s.st.get s.n s.rd (.nileq a b c d) := rfl
theorem evOp_eqs {kk : K} {s : S} {a : Nat} {b : Bool} {c : Opd} {d : Opd} : evOp kk s (.eqs a b c d) = outS s.st (evIns s.st.get s.n s.rd (.eqs a b c d)) := rfl
theorem evOpU_eqs {kk : K} {s : S} {a : Nat} {b : Bool} {c : Opd} {d : Opd} : evOpU kk s (.eqs a b c d) = evIns s.st.get s.n s.rd (.eqs a b c d) := rfl
theorem evOp_un {kk : K} {s : S} {a : UnOp} {b : Opd} : evOp kk s (.un a b) = outS s.st (evIns s.st.get s.n s.rd (.un a b)) := rfl
theorem evOpU_un {kk : K} {s : S} {a : UnOp} {b : Opd} : evOpU kk s (.un a b) = evIns s.st.get s.n s.rd (.un a b) := rfl
theorem evOp_conv {kk : K} {s : S} {a : Cv} {b : Opd} : evOp kk s (.conv a b) = outS s.st (evIns s.st.get s.n s.rd (.conv a b)) := rfl
theorem evOpU_conv {kk : K} {s : S} {a : Cv} {b : Opd} : evOpU kk s (.conv a b) = evIns s.st.get s.n s.rd (.conv a b) := rfl
theorem evOp_mkfn {kk : K} {s : S} {a : Nat} {b : List Opd} : evOp kk s (.mkfn a b) = outS s.st (evIns s.st.get s.n s.rd (.mkfn a b)) := rfl
theorem evOpU_mkfn {kk : K} {s : S} {a : Nat} {b : List Opd} : evOpU kk s (.mkfn a b) = evIns s.st.get s.n s.rd (.mkfn a b) := rfl
theorem evOp_mkmap {kk : K} {s : S} {a : Bool} {b : Bool} : evOp kk s (.mkmap a b) = outS s.st (evIns s.st.get s.n s.rd (.mkmap a b)) := rfl
theorem evOpU_mkmap {kk : K} {s : S} {a : Bool} {b : Bool} : evOpU kk s (.mkmap a b) = evIns s.st.get s.n s.rd (.mkmap a b) := rfl
theorem evOp_mksl {kk : K} {s : S} {a : Nat} {b : Nat} {c : List Value} {d : Opd} {e : Opd} : evOp kk s (.mksl a b c d e) = outS s.st (evIns s.st.get s.n s.rd (.mksl a b c d e)) := rfl
theorem evOpU_mksl {kk : K} {s : S} {a : Nat} {b : Nat} {c : List Value} {d : Opd} {e : Opd} : evOpU kk s (.mksl a b c d e) = evIns s.st.get s.n s.rd (.mksl a b c d e) := rfl
theorem evOp_slc {kk : K} {s : S} {a : Nat} {b : Opd} {c : Option Opd} {d : Option Opd} : evOp kk s (.slc a b c d) = outS s.st (evIns s.st.get s.n s.rd (.slc a b c d)) := rfl
theorem evOpU_slc {kk : K} {s : S} {a : Nat} {b : Opd} {c : Option Opd} {d : Option Opd} : evOpU kk s (.slc a b c d) = evIns s.st.get s.n s.rd (.slc a b c d) := rfl
theorem evOp_fld {kk : K} {s : S} {a : Nat} {b : Opd} : evOp kk s (.fld a b) = outS s.st (evIns s.st.get s.n s.rd (.fld a b)) := rfl
theorem evOpU_fld {kk : K} {s : S} {a : Nat} {b : Opd} : evOpU kk s (.fld a b) = evIns s.st.get s.n s.rd (.fld a b) := rfl
theorem evOp_getf {kk : K} {s : S} {a : Nat} {b : Nat} {c : Bool} {d : Opd} : evOp kk s (.getf a b c d) = outS s.st (evIns s.st.get s.n s.rd (.getf a b c d)) := rfl
theorem evOpU_getf {kk : K} {s : S} {a : Nat} {b : Nat} {c : Bool} {d : Opd} : evOpU kk s (.getf a b c d) = evIns s.st.get s.n s.rd (.getf a b c d) := rfl
theorem evOp_idx {kk : K} {s : S} {a : Nat} {b : Opd} {c : Opd} : evOp kk s (.idx a b c) = outS s.st (evIns s.st.get s.n s.rd (.idx a b c)) := rfl
theorem evOpU_idx {kk : K} {s : S} {a : Nat} {b : Opd} {c : Opd} : evOpU kk s (.idx a b c) = evIns s.st.get s.n s.rd (.idx a b c) := rfl
theorem evOp_idxA {kk : K} {s : S} {a : Nat} {b : Nat} {c : Opd} {d : Opd} : evOp kk s (.idxA a b c d) = outS s.st (evIns s.st.get s.n s.rd (.idxA a b c d)) := rfl
theorem evOpU_idxA {kk : K} {s : S} {a : Nat} {b : Nat} {c : Opd} {d : Opd} : evOpU kk s (.idxA a b c d) = evIns s.st.get s.n s.rd (.idxA a b c d) := rfl
theorem evOp_at {kk : K} {s : S} {a : Nat} {b : Nat} {c : Bool} {d : Opd} {e : Opd} : evOp kk s (.at_ a b c d e) = outS s.st (evIns s.st.get s.n s.rd (.at_ a b c d e)) := rfl
theorem evOpU_at {kk : K} {s : S} {a : Nat} {b : Nat} {c : Bool} {d : Opd} {e : Opd} : evOpU kk s (.at_ a b c d e) = evIns s.st.get s.n s.rd (.at_ a b c d e) := rfl
theorem evOp_ats {kk : K} {s : S} {a : Opd} {b : Opd} : evOp kk s (.ats a b) = outS s.st (evIns s.st.get s.n s.rd (.ats a b)) := rfl
theorem evOpU_ats {kk : K} {s : S} {a : Opd} {b : Opd} : evOpU kk s (.ats a b) = evIns s.st.get s.n s.rd (.ats a b) := rfl
theorem evOp_ext {kk : K} {s : S} {a : Opd} {b : Nat} : evOp kk s (.ext a b) = outS s.st (evIns s.st.get s.n s.rd (.ext a b)) := rfl
theorem evOpU_ext {kk : K} {s : S} {a : Opd} {b : Nat} : evOpU kk s (.ext a b) = evIns s.st.get s.n s.rd (.ext a b) := rfl
theorem evOp_len {kk : K} {s : S} {a : Bool} {b : Opd} : evOp kk s (.len a b) = outS s.st (evIns s.st.get s.n s.rd (.len a b)) := rfl
theorem evOpU_len {kk : K} {s : S} {a : Bool} {b : Opd} : evOpU kk s (.len a b) = evIns s.st.get s.n s.rd (.len a b) := rfl
theorem evOp_app {kk : K} {s : S} {a : Nat} {b : Nat} {c : Opd} {d : Opd} : evOp kk s (.app a b c d) = outS s.st (evIns s.st.get s.n s.rd (.app a b c d)) := rfl
theorem evOpU_app {kk : K} {s : S} {a : Nat} {b : Nat} {c : Opd} {d : Opd} : evOpU kk s (.app a b c d) = evIns s.st.get s.n s.rd (.app a b c d) := rfl
theorem evOp_copy {kk : K} {s : S} {a : Nat} {b : Opd} {c : Opd} : evOp kk s (.copy a b c) = outS s.st (evIns s.st.get s.n s.rd (.copy a b c)) := rfl
theorem evOpU_copy {kk : K} {s : S} {a : Nat} {b : Opd} {c : Opd} : evOpU kk s (.copy a b c) = evIns s.st.get s.n s.rd (.copy a b c) := rfl
theorem evOp_clear {kk : K} {s : S} {a : Nat} {b : List Value} {c : Opd} : evOp kk s (.clear a b c) = outS s.st (evIns s.st.get s.n s.rd (.clear a b c)) := rfl
theorem evOpU_clear {kk : K} {s : S} {a : Nat} {b : List Value} {c : Opd} : evOpU kk s (.clear a b c) = evIns s.st.get s.n s.rd (.clear a b c) := rfl
theorem evOp_mlen {kk : K} {s : S} {a : Opd} : evOp kk s (.mlen a) = outS s.st (evIns s.st.get s.n s.rd (.mlen a)) := rfl
theorem evOpU_mlen {kk : K} {s : S} {a : Opd} : evOpU kk s (.mlen a) = evIns s.st.get s.n s.rd (.mlen a) := rfl
theorem evOp_look {kk : K} {s : S} {a : Nat} {b : List Value} {c : Bool} {d : Opd} {e : Opd} : evOp kk s (.look a b c d e) = outS s.st (evIns s.st.get s.n s.rd (.look a b c d e)) := rfl
theorem evOpU_look {kk : K} {s : S} {a : Nat} {b : List Value} {c : Bool} {d : Opd} {e : Opd} : evOpU kk s (.look a b c d e) = evIns s.st.get s.n s.rd (.look a b c d e) := rfl
theorem evOp_upd {kk : K} {s : S} {a : Nat} {b : Nat} {c : Opd} {d : Opd} {e : Opd} : evOp kk s (.upd a b c d e) = outS s.st (evIns s.st.get s.n s.rd (.upd a b c d e)) := rfl
theorem evOpU_upd {kk : K} {s : S} {a : Nat} {b : Nat} {c : Opd} {d : Opd} {e : Opd} : evOpU kk s (.upd a b c d e) = evIns s.st.get s.n s.rd (.upd a b c d e) := rfl
theorem evOp_del {kk : K} {s : S} {a : Nat} {b : Opd} {c : Opd} : evOp kk s (.del a b c) = outS s.st (evIns s.st.get s.n s.rd (.del a b c)) := rfl
theorem evOpU_del {kk : K} {s : S} {a : Nat} {b : Opd} {c : Opd} : evOpU kk s (.del a b c) = evIns s.st.get s.n s.rd (.del a b c) := rfl
theorem evOp_mm {kk : K} {s : S} {a : Bool} {b : Opd} {c : Opd} : evOp kk s (.mm a b c) = outS s.st (evIns s.st.get s.n s.rd (.mm a b c)) := rfl
theorem evOpU_mm {kk : K} {s : S} {a : Bool} {b : Opd} {c : Opd} : evOpU kk s (.mm a b c) = evIns s.st.get s.n s.rd (.mm a b c) := rfl
theorem evOp_nilc {kk : K} {s : S} {a : Opd} : evOp kk s (.nilc a) = outS s.st (evIns s.st.get s.n s.rd (.nilc a)) := rfl
theorem evOpU_nilc {kk : K} {s : S} {a : Opd} : evOpU kk s (.nilc a) = evIns s.st.get s.n s.rd (.nilc a) := rfl
section
variable {x : T} {id off e len f : Nat} {cs : List C} {ts : List T} {lk : Look}
theorem mem_t : V.mem (.c (.t x)) = some [.t x] := rfl
theorem mem_ptr : V.mem (.c (.ptr id off)) = some [.ptr id off] := rfl
theorem mem_own : V.mem (.c (.own id e off len)) = some [.own id e off len] := rfl
theorem mem_tp : V.mem (.c (.tp ts)) = some [.tp ts] := rfl
theorem mem_clo {l : List (Nat × Nat)} : V.mem (.c (.clo f l)) = some [.clo f l] := rfl
theorem mem_mp : V.mem (.c (.mp id)) = some [.mp id] := rfl
theorem mem_agg : V.mem (.agg cs) = if cs.all C.ok = true then some cs else none := rfl
theorem ok_t : C.ok (.t x) = true := rfl
theorem ok_ptr : C.ok (.ptr id off) = true := rfl
theorem ok_own : C.ok (.own id e off len) = true := rfl
theorem ok_tp : C.ok (.tp ts) = true := rfl
theorem ok_clo {l : List (Nat × Nat)} : C.ok (.clo f l) = true := rfl
theorem ok_mp : C.ok (.mp id) = true := rfl
theorem ok_mapt : (ts.map C.t).all C.ok = true := by
  induction ts with
  | nil => rfl
  | cons _ _ ih => simp only [List.map_cons, List.all_cons, ih]; rfl
/-- Arguments as trees, one by one. -/
def vApp {α : Type} (x : α) (u : List (Nat × Blk)) : Option (List α × List (Nat × Blk)) → Option (List α × List (Nat × Blk))
  | some (xs, us) => some (x :: xs, u ++ us)
  | none => none
def vCons {α : Type} (r : Option (List α × List (Nat × Blk))) : Option (α × List (Nat × Blk)) → Option (List α × List (Nat × Blk))
  | some (x, u) => vApp x u r
  | none => none
theorem vApp_some {α : Type} {x : α} {u us : List (Nat × Blk)} {xs : List α} : vApp x u (some (xs, us)) = some (x :: xs, u ++ us) := rfl
theorem vApp_none {α : Type} {x : α} {u : List (Nat × Blk)} : vApp x u none = none := rfl
theorem vCons_some {α : Type} {x : α} {u : List (Nat × Blk)} {r : Option (List α × List (Nat × Blk))} : vCons r (some (x, u)) = vApp x u r := rfl
theorem toTs_nil : toTs lk [] = some ([], []) := rfl
theorem toTs_cons {c : C} : toTs lk (c :: cs) = vCons (toTs lk cs) (toT lk c) := by
  simp only [toTs]
  cases toT lk c with
  | none => rfl
  | some y =>
    obtain ⟨a, b⟩ := y
    simp only [vCons]
    cases toTs lk cs <;> rfl
theorem toTs_t : toTs lk (.t x :: cs) = vApp x [] (toTs lk cs) := by
  rw [toTs_cons]; rfl
theorem toTs_mapt : toTs lk (ts.map C.t) = some (ts, []) := by
  induction ts with
  | nil => rfl
  | cons x ts ih => rw [List.map_cons, toTs_t, ih]; rfl
theorem toVs_nil : toVs lk [] = some ([], []) := rfl
def wC : Option (T × List (Nat × Blk)) → Option (V × List (Nat × Blk))
  | some (t, u) => some (.c (.t t), u)
  | none => none
def wA : Option (List T × List (Nat × Blk)) → Option (V × List (Nat × Blk))
  | some (ts, u) => some (.agg (ts.map .t), u)
  | none => none
theorem wC_some {u : List (Nat × Blk)} : wC (some (x, u)) = some (.c (.t x), u) := rfl
theorem wA_some {u : List (Nat × Blk)} : wA (some (ts, u)) = some (.agg (ts.map .t), u) := rfl
theorem toVs_cons {v : V} {vs : List V} : toVs lk (v :: vs) = vCons (toVs lk vs) (toV lk v) := by
  simp only [toVs]
  cases toV lk v with
  | none => rfl
  | some y =>
    obtain ⟨a, b⟩ := y
    simp only [vCons]
    cases toVs lk vs <;> rfl
theorem toVs_c {c : C} {vs : List V} : toVs lk (.c c :: vs) = vCons (toVs lk vs) (wC (toT lk c)) := by
  rw [toVs_cons]; simp only [toV]; cases toT lk c <;> rfl
theorem toVs_agg {vs : List V} : toVs lk (.agg cs :: vs) = vCons (toVs lk vs) (wA (toTs lk cs)) := by
  rw [toVs_cons]; simp only [toV]; cases toTs lk cs <;> rfl
theorem toT_t : toT lk (.t x) = some (x, []) := rfl
/-- The cells of an owned slice. -/
def vSl (id len off e : Nat) : Option (List T × Bool) → Option (T × List (Nat × Blk))
  | some (cs, b) => if off + len * e ≤ cs.length then some (.sl len ((cs.drop off).take (len * e)), if b = true then [(id, .frz cs)] else []) else none
  | none => none
def aOf : Option Blk → Option (List T × Bool)
  | some (.frz cs) => some (cs, false)
  | some (.arr _ cs) => some (cs, true)
  | _ => none
theorem toT_own : toT lk (.own id e off len) = vSl id len off e (aOf (lk id)) := by
  simp only [toT, arrOf, vSl, aOf]
  cases lk id with
  | none => rfl
  | some b => cases b <;> rfl
theorem aOf_arr : aOf (some (.arr e ts)) = some (ts, true) := rfl
theorem aOf_frz : aOf (some (.frz ts)) = some (ts, false) := rfl
theorem vSl_some {b : Bool} : vSl id len off e (some (ts, b)) = if off + len * e ≤ ts.length then some (.sl len ((ts.drop off).take (len * e)), if b = true then [(id, .frz ts)] else []) else none := rfl
/-- Results. -/
def tGet : Option V → Option (Bool × List C)
  | some (.c x) => some (false, [x])
  | some (.agg cs) => some (true, cs)
  | _ => none
def rCell (off n : Nat) (agg : Bool) : Option Blk → Option (Bool × List C)
  | some (.box cs) => if off + n ≤ cs.length then some (agg, (cs.drop off).take n) else none
  | _ => none
def rGet (st : Tr Blk) (n : Nat) (agg : Bool) : Option V → Option (Bool × List C)
  | some (.c (.ptr id off)) => rCell off n agg (st.get id)
  | _ => none
variable {tm : Tr V} {st : Tr Blk} {n t : Nat} {agg : Bool}
theorem tGet_c {c : C} : tGet (some (.c c)) = some (false, [c]) := rfl
theorem tGet_agg : tGet (some (.agg cs)) = some (true, cs) := rfl
theorem rGet_ptr : rGet st n agg (some (.c (.ptr id off))) = rCell off n agg (st.get id) := rfl
theorem rCell_box : rCell off n agg (some (.box cs)) = if off + n ≤ cs.length then some (agg, (cs.drop off).take n) else none := rfl
theorem res1_tmp : res1 ⟨tm, st, n⟩ (.tmp t) = tGet (tm.get t) := by
  simp only [res1, tGet]
  cases tm.get t with
  | none => rfl
  | some v => cases v <;> rfl
theorem res1_cell {k : Nat} : res1 ⟨tm, st, n⟩ (.cell t k agg) = rGet st k agg (tm.get t) := by
  simp only [res1, rGet, rCell]
  cases tm.get t with
  | none => rfl
  | some v =>
    cases v with
    | c c =>
      cases c with
      | ptr id off =>
        dsimp only
        cases st.get id with
        | none => rfl
        | some b => cases b <;> rfl
      | _ => rfl
    | _ => rfl
def rCons (r : Option (List (Bool × List C))) : Option (Bool × List C) → Option (List (Bool × List C))
  | some x => r.map (x :: ·)
  | none => none
theorem rCons_some {x : Bool × List C} {r : List (Bool × List C)} : rCons (some r) (some x) = some (x :: r) := rfl
theorem rCons_none {r : Option (List (Bool × List C))} : rCons r none = none := rfl
theorem ress_nil {s : S} : ress s [] = some [] := rfl
theorem ress_cons {s : S} {r : Rs} {rs : List Rs} : ress s (r :: rs) = rCons (ress s rs) (res1 s r) := by
  simp only [ress]
  cases res1 s r <;> rfl
def rOut : Option (List (Bool × List C)) → Option V
  | some [(agg, cs)] => mk agg cs
  | some l => some (.tup l)
  | none => none
theorem resV_eq {s : S} {rs : List Rs} : resV s rs = rOut (ress s rs) := by
  simp only [resV, rOut]
  cases ress s rs with
  | none => rfl
  | some l => match l with
    | [] => rfl
    | [_] => rfl
    | _ :: _ :: _ => rfl
theorem rOut_one : rOut (some [(agg, cs)]) = mk agg cs := rfl
theorem rOut_two {a b : Bool × List C} {l : List (Bool × List C)} : rOut (some (a :: b :: l)) = some (.tup (a :: b :: l)) := rfl
theorem mk_one {c : C} : mk false [c] = some (.c c) := rfl
theorem mk_agg : mk true cs = some (.agg cs) := rfl
/-- An answer as trees. -/
def fOut : Option V → Option (V × List Blk)
  | some t => some (t, [])
  | none => none
theorem fOut_some {v : V} : fOut (some v) = some (v, []) := rfl
theorem finF_true {v : V} : finF true st v = fOut (toR st.get v) := by
  unfold finF fOut
  rfl
def oC : Option (T × List (Nat × Blk)) → Option V
  | some (t, _) => some (.c (.t t))
  | none => none
def oA : Option (List T × List (Nat × Blk)) → Option V
  | some (ts, _) => some (.agg (ts.map .t))
  | none => none
theorem oC_some {u : List (Nat × Blk)} : oC (some (x, u)) = some (.c (.t x)) := rfl
theorem oA_some {u : List (Nat × Blk)} : oA (some (ts, u)) = some (.agg (ts.map .t)) := rfl
theorem toR_c {c : C} : toR lk (.c c) = oC (toT lk c) := by
  simp only [toR]; cases toT lk c <;> rfl
theorem toR_agg : toR lk (.agg cs) = oA (toTs lk cs) := by
  simp only [toR]; cases toTs lk cs <;> rfl
def oT : Option (List (Bool × List C)) → Option V
  | some xs => some (.tup xs)
  | none => none
theorem oT_some {xs : List (Bool × List C)} : oT (some xs) = some (.tup xs) := rfl
theorem toR_tup {vs : List (Bool × List C)} : toR lk (.tup vs) = oT (toRs lk vs) := by
  simp only [toR]; cases toRs lk vs <;> rfl
def oR (agg : Bool) (r : Option (List (Bool × List C))) : Option (List T × List (Nat × Blk)) → Option (List (Bool × List C))
  | some (ts, _) => r.map ((agg, ts.map .t) :: ·)
  | none => none
theorem oR_some {r : List (Bool × List C)} {u : List (Nat × Blk)} : oR agg (some r) (some (ts, u)) = some ((agg, ts.map .t) :: r) := rfl
theorem toRs_nil : toRs lk [] = some [] := rfl
theorem toRs_cons {r : List (Bool × List C)} : toRs lk ((agg, cs) :: r) = oR agg (toRs lk r) (toTs lk cs) := by
  simp only [toRs]
  cases toTs lk cs with
  | none => rfl
  | some y => obtain ⟨a, b⟩ := y; simp only [oR]; cases toRs lk r <;> rfl
end
attribute [go_sem] evOp_mov evOpU_mov evOp_pick evOpU_pick evOp_alloc evOpU_alloc evOp_box evOpU_box evOp_build evOpU_build evOp_bsl evOpU_bsl evOp_load evOpU_load evOp_store evOpU_store evOp_bin evOpU_bin evOp_beq evOpU_beq evOp_nileq evOpU_nileq evOp_eqs evOpU_eqs evOp_un evOpU_un evOp_conv evOpU_conv evOp_mkfn evOpU_mkfn evOp_mkmap evOpU_mkmap evOp_mksl evOpU_mksl evOp_slc evOpU_slc evOp_fld evOpU_fld evOp_getf evOpU_getf evOp_idx evOpU_idx evOp_idxA evOpU_idxA evOp_at evOpU_at evOp_ats evOpU_ats evOp_ext evOpU_ext evOp_len evOpU_len evOp_app evOpU_app evOp_copy evOpU_copy evOp_clear evOpU_clear evOp_mlen evOpU_mlen evOp_look evOpU_look evOp_upd evOpU_upd evOp_del evOpU_del evOp_mm evOpU_mm evOp_nilc evOpU_nilc
attribute [go_sem] goC_skip goC_seq goC_block goC_loop goC_exit goC_ret goC_reg goC_drw goC_cond goB_true goB_false goN_nil goN_seq goN_blk goN_loop goE_nil goE_seq goE_blk goE_loop
  goR_nil goR_seq goR_blk goR_loop goO_nil goO_cons goO_guard goA_some goG_un goGD_un goG_tt goG_tf goG_ft goG_ff goD_nil goD_cons goD_guard goAD_some goGD_tt goGD_tf goGD_ft goGD_ff
  rd_t rd_k rd_f tmv_some put_some put_none outS_some outS_none runS_iso runS_shr evOp_call evOpU_call evOp_callv runV_clo runV_fn evCall_eq callR_some
  kOf_iso kOf_shr kOf_run endB_norm endB_ret endV_some endF_some vPick_true vPick_false evI_mov evI_pick evI_alloc evI_box vBox_some vP_some vBin_v evI_bin vLoad_ptr vLoad_tp vLoadB_box vLoadB_arr vLoadB_frz evI_load vCells_one vCells_agg evI_fld
  Tr.get_set Tr.get_leaf args0 putAll mem_t mem_ptr mem_own mem_tp mem_clo mem_mp mem_agg ok_t ok_ptr ok_own ok_tp ok_clo ok_mp ok_mapt toVs_nil toVs_c toVs_agg toTs_nil toTs_t toTs_cons toTs_mapt toT_t toT_own aOf_arr aOf_frz wC_some wA_some vApp_some vApp_none vCons_some
  resV_eq rOut_one rOut_two mk_one mk_agg res1_tmp res1_cell ress_nil ress_cons tGet_c tGet_agg rGet_ptr rCell_box rCons_some rCons_none finF_true fOut_some toR_c toR_agg toR_tup toRs_nil toRs_cons oC_some oA_some oT_some oR_some
  ite_true ite_false List.all_cons List.all_nil List.map_cons List.map_nil List.length_cons List.length_nil List.length_map List.drop_succ_cons List.drop_zero List.take_succ_cons List.take_zero List.getElem?_cons_zero List.getElem?_cons_succ List.cons_append List.nil_append Bool.and_true Bool.true_and Bool.and_false Bool.false_and decide_true decide_false and_true true_and List.flatMap_cons List.flatMap_nil List.append_nil Bool.not_true Bool.not_false
end Go.Proofs.Sg
