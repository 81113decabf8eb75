/- The frame, part Za: numbers. -/
import Derived.Test.YtcijgahloogooaaFrZ
import Derived.Laws.BitsLemmas
import Derived.Laws.Bits64
namespace Go.Proofs.Sg

def U8 (x : BitVec 8) : Value := .int .u8 (x.toNat : Int)
def U32 (x : BitVec 32) : Value := .int .u32 (x.toNat : Int)
def U64 (x : BitVec 64) : Value := .int .u64 (x.toNat : Int)

theorem i64_id {n : Int} (h0 : -9223372036854775808 ≤ n) (h1 : n ≤ 9223372036854775807) : IntKind.i64.wrap n = n := by
  rw [IntKind.wrap_i64]; omega

section
variable {a b : Int}
theorem bI_add : bin1 .add (.int .i64 a) (.int .i64 b) = some (.int .i64 (IntKind.i64.wrap (a + b))) := rfl
theorem bI_sub : bin1 .sub (.int .i64 a) (.int .i64 b) = some (.int .i64 (IntKind.i64.wrap (a - b))) := rfl
theorem bI_mul : bin1 .mul (.int .i64 a) (.int .i64 b) = some (.int .i64 (IntKind.i64.wrap (a * b))) := rfl
theorem bI_quo (h : b ≠ 0) : bin1 .quo (.int .i64 a) (.int .i64 b) = some (.int .i64 (IntKind.i64.wrap (a.tdiv b))) := by
  simp [bin1, h]
theorem bI_rem (h : b ≠ 0) : bin1 .rem (.int .i64 a) (.int .i64 b) = some (.int .i64 (a.tmod b)) := by
  simp [bin1, h]
theorem bI_eql : bin1 .eql (.int .i64 a) (.int .i64 b) = some (.bool (decide (a = b))) := by
  simp only [bin1, if_true]; rfl
theorem bI_neq : bin1 .neq (.int .i64 a) (.int .i64 b) = some (.bool (decide (a ≠ b))) := by
  simp only [bin1, if_true, ne_eq, decide_not]; rfl
theorem bI_lss : bin1 .lss (.int .i64 a) (.int .i64 b) = some (.bool (decide (a < b))) := rfl
theorem bI_leq : bin1 .leq (.int .i64 a) (.int .i64 b) = some (.bool (decide (a ≤ b))) := rfl
theorem bI_gtr : bin1 .gtr (.int .i64 a) (.int .i64 b) = some (.bool (decide (b < a))) := rfl
theorem bI_geq : bin1 .geq (.int .i64 a) (.int .i64 b) = some (.bool (decide (b ≤ a))) := rfl
end

theorem ofInt_toNat_add {w : Nat} (x y : BitVec w) : BitVec.ofInt w ((x.toNat : Int) + y.toNat) = x + y := by
  rw [← Int.natCast_add, BitVec.ofInt_natCast]
  apply BitVec.eq_of_toNat_eq
  rw [BitVec.toNat_ofNat, BitVec.toNat_add]
theorem ofInt_toNat {w : Nat} (x : BitVec w) : BitVec.ofInt w (x.toNat : Int) = x := by
  rw [BitVec.ofInt_natCast, BitVec.ofNat_toNat, BitVec.setWidth_eq]

section
variable {x y : BitVec 32} {n : Int}
theorem w32 (z : Int) : IntKind.u32.wrap z = ((BitVec.ofInt 32 z).toNat : Int) := by
  rw [IntKind.wrap_u32, BitVec.toNat_ofInt]; omega
theorem bU_add : bin1 .add (U32 x) (U32 y) = some (U32 (x + y)) := by
  show some (Value.int .u32 (IntKind.u32.wrap _)) = _
  rw [w32, ofInt_toNat_add]; rfl
theorem bU_sub : bin1 .sub (U32 x) (U32 y) = some (U32 (x - y)) := by
  show some (Value.int .u32 (IntKind.u32.wrap _)) = some (Value.int _ _)
  rw [IntKind.wrap_u32, BitVec.toNat_sub]; congr 2; omega
theorem bU_and : bin1 .and (U32 x) (U32 y) = some (U32 (x &&& y)) := by
  show some (Value.int .u32 (IntKind.u32.wrap ((BitVec.ofInt 32 (x.toNat : Int) &&& BitVec.ofInt 32 (y.toNat : Int)).toNat : Int))) = _
  rw [ofInt_toNat, ofInt_toNat, w32, ofInt_toNat]; rfl
theorem bU_or : bin1 .or (U32 x) (U32 y) = some (U32 (x ||| y)) := by
  show some (Value.int .u32 (IntKind.u32.wrap ((BitVec.ofInt 32 (x.toNat : Int) ||| BitVec.ofInt 32 (y.toNat : Int)).toNat : Int))) = _
  rw [ofInt_toNat, ofInt_toNat, w32, ofInt_toNat]; rfl
theorem bU_andNot : bin1 .andNot (U32 x) (U32 y) = some (U32 (x &&& ~~~ y)) := by
  show some (Value.int .u32 (IntKind.u32.wrap ((BitVec.ofInt 32 (x.toNat : Int) &&& ~~~ BitVec.ofInt 32 (y.toNat : Int)).toNat : Int))) = _
  rw [ofInt_toNat, ofInt_toNat, w32, ofInt_toNat]; rfl
theorem toNat_eq_iff {w : Nat} {x y : BitVec w} : (x.toNat : Int) = (y.toNat : Int) ↔ x = y := ⟨fun h => BitVec.eq_of_toNat_eq (by omega), fun h => by rw [h]⟩
theorem bU_eql : bin1 .eql (U32 x) (U32 y) = some (.bool (decide (x = y))) := by
  show some (Value.bool ((x.toNat : Int) == (y.toNat : Int))) = _
  congr 2
  rw [Bool.eq_iff_iff]
  simp [toNat_eq_iff]
theorem bU_neq : bin1 .neq (U32 x) (U32 y) = some (.bool (decide (x ≠ y))) := by
  show some (Value.bool ((x.toNat : Int) != (y.toNat : Int))) = _
  congr 2
  rw [Bool.eq_iff_iff]
  simp [toNat_eq_iff]
theorem bU_lss : bin1 .lss (U32 x) (U32 y) = some (.bool (decide (x < y))) := by
  show some (Value.bool (decide ((x.toNat : Int) < (y.toNat : Int)))) = _
  congr 2
  rw [decide_eq_decide, BitVec.lt_def]; omega
theorem bU_leq : bin1 .leq (U32 x) (U32 y) = some (.bool (decide (x ≤ y))) := by
  show some (Value.bool (decide ((x.toNat : Int) ≤ (y.toNat : Int)))) = _
  congr 2
  rw [decide_eq_decide, BitVec.le_def]; omega
theorem bU_gtr : bin1 .gtr (U32 x) (U32 y) = some (.bool (decide (y < x))) := by
  show some (Value.bool (decide ((x.toNat : Int) > (y.toNat : Int)))) = _
  congr 2
  rw [decide_eq_decide, BitVec.lt_def]; omega
theorem bU_geq : bin1 .geq (U32 x) (U32 y) = some (.bool (decide (y ≤ x))) := by
  show some (Value.bool (decide ((x.toNat : Int) ≥ (y.toNat : Int)))) = _
  congr 2
  rw [decide_eq_decide, BitVec.le_def]; omega
theorem bU_rem (h : y ≠ 0) : bin1 .rem (U32 x) (U32 y) = some (U32 (x % y)) := by
  have hy : (y.toNat : Int) ≠ 0 := fun e => h (BitVec.eq_of_toNat_eq (by simpa using e))
  show (if (y.toNat : Int) = 0 then none else some (Value.int .u32 ((x.toNat : Int).tmod y.toNat))) = _
  rw [if_neg hy]
  congr 2
theorem bU_quo (h : y ≠ 0) : bin1 .quo (U32 x) (U32 y) = some (U32 (x / y)) := by
  have hy : (y.toNat : Int) ≠ 0 := fun e => h (BitVec.eq_of_toNat_eq (by simpa using e))
  show (if (y.toNat : Int) = 0 then none else some (Value.int .u32 (IntKind.u32.wrap ((x.toNat : Int).tdiv y.toNat)))) = _
  rw [if_neg hy, w32]
  congr 2
  have : (x.toNat : Int).tdiv y.toNat = ((x / y).toNat : Int) := by simp [BitVec.toNat_udiv]
  rw [this, ofInt_toNat]
theorem bU_shl (h : 0 ≤ n) : bin1 .shl (U32 x) (.int .i64 n) = some (U32 (x <<< n.toNat)) := by
  show (if n < 0 then none else some (Value.int .u32 (IntKind.u32.wrap ((x.toNat : Int) * 2 ^ (min n.toNat 32))))) = _
  rw [if_neg (by omega), IntKind.wrap_u32]
  congr 2
  show _ = ((x <<< n.toNat).toNat : Int)
  rw [BitVec.toNat_shiftLeft, Nat.shiftLeft_eq]
  by_cases hn : n.toNat ≤ 32
  · rw [Nat.min_eq_left hn, Int.natCast_emod, Int.natCast_mul, Int.natCast_pow]
    rfl
  · rw [Nat.min_eq_right (by omega)]
    obtain ⟨k, hk⟩ : ∃ k, n.toNat = 32 + k := ⟨n.toNat - 32, by omega⟩
    rw [hk, Nat.pow_add, ← Nat.mul_assoc, Nat.mul_right_comm, Nat.mul_mod_left]
    omega
theorem bU_shr (h : 0 ≤ n) : bin1 .shr (U32 x) (.int .i64 n) = some (U32 (x >>> n.toNat)) := by
  show (if n < 0 then none else some (Value.int .u32 ((x.toNat : Int).fdiv (2 ^ (min n.toNat 32))))) = _
  rw [if_neg (by omega)]
  congr 2
  show _ = ((x >>> n.toNat).toNat : Int)
  rw [BitVec.toNat_ushiftRight, Nat.shiftRight_eq_div_pow, Int.fdiv_eq_ediv_of_nonneg _ (Int.le_of_lt (Int.pow_pos (by omega)))]
  by_cases hn : n.toNat ≤ 32
  · rw [Nat.min_eq_left hn, Int.natCast_ediv, Int.natCast_pow]
    rfl
  · rw [Nat.min_eq_right (by omega), Nat.div_eq_of_lt (Nat.lt_of_lt_of_le x.isLt (Nat.pow_le_pow_right (by omega) (by omega)))]
    have := x.isLt
    omega
theorem bU_shl64 {c : BitVec 64} : bin1 .shl (U32 x) (U64 c) = some (U32 (x <<< c.toNat)) := by
  have := bU_shl (x := x) (n := (c.toNat : Int)) (by omega)
  rw [Int.toNat_natCast] at this
  exact this
theorem bU_shr64 {c : BitVec 64} : bin1 .shr (U32 x) (U64 c) = some (U32 (x >>> c.toNat)) := by
  have := bU_shr (x := x) (n := (c.toNat : Int)) (by omega)
  rw [Int.toNat_natCast] at this
  exact this
end
end Go.Proofs.Sg
