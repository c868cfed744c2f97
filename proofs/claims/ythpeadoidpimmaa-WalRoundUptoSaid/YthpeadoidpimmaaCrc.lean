/- The CRC: bit by bit and by halves of a byte: the same. No condition. -/
import Derived.Test.YthpeadoidpimmaaVx
namespace Tw
open Go
set_option linter.unusedVariables false
set_option linter.unusedSimpArgs false

abbrev poly : BitVec 32 := 3988292384#32
def sel (b : Bool) : BitVec 32 := if b then poly else 0#32
def bitStep (x : BitVec 32) : BitVec 32 := (x >>> 1) ^^^ sel (x.getLsbD 0)
def tab : List Nat := [0, 498536548, 997073096, 651767980, 1994146192, 1802195444, 1303535960, 1342533948, 3988292384, 4027552580, 3604390888, 3412177804, 2607071920, 2262029012, 2685067896, 3183342108]
def halfOf (x : BitVec 32) : BitVec 32 := BitVec.ofNat 32 (tab.getD (x.toNat % 16) 0)

theorem four {x : BitVec 32} {b0 b1 b2 b3 : Bool} (h0 : x.getLsbD 0 = b0) (h1 : x.getLsbD 1 = b1) (h2 : x.getLsbD 2 = b2) (h3 : x.getLsbD 3 = b3) :
    bitStep (bitStep (bitStep (bitStep x))) = x >>> 4 ^^^ (sel b0 >>> 3 ^^^ (sel b1 >>> 2 ^^^ (sel b2 >>> 1 ^^^ sel b3))) := by
  have e1 : ∀ b : Bool, (sel b).getLsbD 0 = false := by decide
  have e2 : ∀ b : Bool, (sel b).getLsbD 1 = false := by decide
  have e3 : ∀ b : Bool, (sel b).getLsbD 2 = false := by decide
  have s1 : (bitStep x).getLsbD 0 = b1 ∧ (bitStep x).getLsbD 1 = b2 ∧ (bitStep x).getLsbD 2 = b3 := by
    simp only [bitStep, h0, BitVec.getLsbD_xor, BitVec.getLsbD_ushiftRight, e1, e2, e3, Bool.xor_false]
    exact ⟨h1, h2, h3⟩
  have d1 : bitStep x = x >>> 1 ^^^ sel b0 := by simp only [bitStep, h0]
  generalize bitStep x = y at *
  have s2 : (bitStep y).getLsbD 0 = b2 ∧ (bitStep y).getLsbD 1 = b3 := by
    simp only [bitStep, s1.1, BitVec.getLsbD_xor, BitVec.getLsbD_ushiftRight, e1, e2, e3, Bool.xor_false]
    exact ⟨s1.2.1, s1.2.2⟩
  have d2 : bitStep y = y >>> 1 ^^^ sel b1 := by simp only [bitStep, s1.1]
  generalize bitStep y = z at *
  have s3 : (bitStep z).getLsbD 0 = b3 := by
    simp only [bitStep, s2.1, BitVec.getLsbD_xor, BitVec.getLsbD_ushiftRight, e1, e2, e3, Bool.xor_false]
    exact s2.2
  have d3 : bitStep z = z >>> 1 ^^^ sel b2 := by simp only [bitStep, s2.1]
  generalize bitStep z = w at *
  have d4 : bitStep w = w >>> 1 ^^^ sel b3 := by simp only [bitStep, s3]
  rw [d4, d3, d2, d1]
  simp only [BitVec.ushiftRight_xor_distrib, ← BitVec.shiftRight_add, BitVec.xor_assoc]

theorem lsb (x : BitVec 32) (i : Nat) : x.getLsbD i = decide (x.toNat / 2 ^ i % 2 = 1) := by
  rw [BitVec.getLsbD, Nat.testBit_eq_decide_div_mod_eq]

theorem half_four (x : BitVec 32) : x >>> 4 ^^^ halfOf x = bitStep (bitStep (bitStep (bitStep x))) := by
  have hlo : x.toNat % 16 < 16 := Nat.mod_lt _ (by omega)
  have l0 := lsb x 0
  have l1 := lsb x 1
  have l2 := lsb x 2
  have l3 := lsb x 3
  have q0 : x.toNat / 2 ^ 0 % 2 = x.toNat % 16 % 2 := by omega
  have q1 : x.toNat / 2 ^ 1 % 2 = x.toNat % 16 / 2 % 2 := by omega
  have q2 : x.toNat / 2 ^ 2 % 2 = x.toNat % 16 / 4 % 2 := by omega
  have q3 : x.toNat / 2 ^ 3 % 2 = x.toNat % 16 / 8 % 2 := by omega
  rw [q0] at l0; rw [q1] at l1; rw [q2] at l2; rw [q3] at l3
  rw [four l0 l1 l2 l3]
  unfold halfOf
  generalize x.toNat % 16 = n at *
  congr 1
  clear l0 l1 l2 l3 q0 q1 q2 q3
  revert n
  decide

def byteStep (x : BitVec 32) (b : UInt8) : BitVec 32 :=
  bitStep (bitStep (bitStep (bitStep (bitStep (bitStep (bitStep (bitStep (x ^^^ BitVec.ofNat 32 b.toNat))))))))

/-- The sum, by the document. -/
def crcFrom (x : BitVec 32) (bs : List UInt8) : BitVec 32 := bs.foldl byteStep x
def crc (bs : List UInt8) : BitVec 32 := crcFrom 4294967295#32 bs ^^^ 4294967295#32

/-! ### The numbers of the program -/
theorem ofInt_u32 (x : BitVec 32) : BitVec.ofInt (IntKind.bits .u32) (x.toNat : Int) = x := by
  show BitVec.ofInt 32 (x.toNat : Int) = x
  rw [BitVec.ofInt_natCast, BitVec.ofNat_toNat, BitVec.setWidth_eq]
theorem wrap_toNat (x : BitVec 32) : IntKind.u32.wrap (x.toNat : Int) = (x.toNat : Int) := by
  rw [wrap_u32]
  have := x.isLt
  omega
theorem xor_u32 (x y : BitVec 32) : IntKind.u32.wrap ((BitVec.ofInt (IntKind.bits .u32) (x.toNat : Int) ^^^ BitVec.ofInt (IntKind.bits .u32) (y.toNat : Int)).toNat : Int) = ((x ^^^ y).toNat : Int) := by
  rw [ofInt_u32, ofInt_u32]
  exact wrap_toNat _
theorem and15_u32 (x : BitVec 32) : IntKind.u32.wrap ((BitVec.ofInt (IntKind.bits .u32) (x.toNat : Int) &&& BitVec.ofInt (IntKind.bits .u32) 15).toNat : Int) = ((x.toNat % 16 : Nat) : Int) := by
  rw [ofInt_u32]
  show IntKind.u32.wrap ((x &&& 15#32).toNat : Int) = _
  rw [wrap_toNat]
  congr 1
  rw [BitVec.toNat_and]
  exact Nat.and_two_pow_sub_one_eq_mod (n := 4) x.toNat
theorem shr_u32 (x : BitVec 32) (k : Nat) (hk : k ≤ 32) : Int.fdiv (x.toNat : Int) (2 ^ (min (Int.toNat (k : Int)) (IntKind.bits .u32))) = ((x >>> k).toNat : Int) := by
  have : min (Int.toNat (k : Int)) (IntKind.bits .u32) = k := by
    show min k 32 = k
    omega
  rw [this, BitVec.toNat_ushiftRight, Nat.shiftRight_eq_div_pow]
  rw [Int.fdiv_eq_ediv_of_nonneg _ (by exact Int.le_of_lt (Int.pow_pos (by omega)))]
  simp
theorem byte_u32 (b : UInt8) {n : Int} (h : Wr .u32 (b.toNat : Int) n) : n = ((BitVec.ofNat 32 b.toNat).toNat : Int) := by
  unfold Wr at h
  rw [wrap_u32] at h
  rw [h, BitVec.toNat_ofNat]
  omega
theorem mod2_u32 (x : BitVec 32) : (Int.tmod (x.toNat : Int) 2 == 1) = x.getLsbD 0 := by
  rw [lsb, Int.tmod_eq_emod_of_nonneg (by omega)]
  rw [Bool.eq_iff_iff]
  simp
  omega
end Tw
