import Derived.Test.YtghdinkgfpfdoaaGreatLe
import Derived.Test.YtghdinkgfpfdoaaGreatFb
/- Loops and numbers: lemmas for the plain laws. -/
namespace Go.Abs
open Go

section
variable {S R : Type}
/-- So many rounds, told one by one. -/
theorem loopO_run {f : S → Option (S ⊕ R)} (st : Nat → S) : ∀ n : Nat, (∀ k, k < n → f (st k) = some (.inl (st (k + 1)))) → loopO f (st 0) = loopO f (st n)
  | 0, _ => rfl
  | n + 1, h => by
    rw [loopO_run st n fun k hk => h k (by omega)]
    rw [loopO_eq f (st n), h n (by omega)]
theorem loopO_end {f : S → Option (S ⊕ R)} {s : S} {r : R} (h : f s = some (.inr r)) : loopO f s = some r := by rw [loopO_eq, h]
theorem loopO_for {f : S → Option (S ⊕ R)} (st : Nat → S) (n : Nat) {r : R} (h : ∀ k, k < n → f (st k) = some (.inl (st (k + 1)))) (he : f (st n) = some (.inr r)) : loopO f (st 0) = some r := by
  rw [loopO_run st n h, loopO_end he]
theorem loopO_iter {f : S → Option (S ⊕ R)} {s : S} {r : R} (n : Nat) (h : iterO f n s = some r) : loopO f s = some r := loopO_iff.2 ⟨n, h⟩
end

theorem wrap_i64 {x : Int} (h : -9223372036854775808 ≤ x) (k : x < 9223372036854775808) : IntKind.wrap IntKind.i64 x = x := by
  unfold IntKind.wrap
  simp only [IntKind.bits, IntKind.signed]
  have : (2 : Int) ^ 64 = 18446744073709551616 := by decide
  have h63 : (2 : Int) ^ (64 - 1) = 9223372036854775808 := by decide
  simp only [this, h63]
  by_cases h0 : 0 ≤ x
  · have e : x % 18446744073709551616 = x := by omega
    rw [e]
    simp; omega
  · have e : x % 18446744073709551616 = x + 18446744073709551616 := by omega
    rw [e]
    simp; omega
theorem wrap_nat {k : Nat} (h : k < 9223372036854775808) : IntKind.wrap IntKind.i64 (k : Int) = (k : Int) := wrap_i64 (by omega) (by omega)
theorem wrap_i64_succ {k : Nat} (h : k < 9223372036854775807) : IntKind.wrap IntKind.i64 ((k : Int) + 1) = ((k + 1 : Nat) : Int) := by
  rw [wrap_i64 (by omega) (by omega)]; omega
theorem wrap_u8 {x : Int} (h : 0 ≤ x) (k : x < 256) : IntKind.wrap IntKind.u8 x = x := by
  unfold IntKind.wrap
  simp only [IntKind.bits, IntKind.signed]
  have : (2 : Int) ^ 8 = 256 := by decide
  simp only [this]
  simp; omega
/-! Bits of numbers that are not negative. -/
theorem toNat_ofInt64 {a : Nat} (h : a < 2 ^ 64) : (BitVec.ofInt (IntKind.bits .i64) (a : Int)).toNat = a := by
  show (BitVec.ofInt 64 (a : Int)).toNat = a
  simp [Nat.mod_eq_of_lt h]
theorem toNat_ofInt8 {a : Nat} (h : a < 256) : (BitVec.ofInt (IntKind.bits .u8) (a : Int)).toNat = a := by
  show (BitVec.ofInt 8 (a : Int)).toNat = a
  simp [Nat.mod_eq_of_lt h]
theorem bxor64 {a b : Nat} (ha : a < 2 ^ 63) (hb : b < 2 ^ 63) :
    IntKind.wrap .i64 (((BitVec.ofInt (IntKind.bits .i64) (a : Int) ^^^ BitVec.ofInt (IntKind.bits .i64) (b : Int)).toNat : Nat) : Int) = ((a ^^^ b : Nat) : Int) := by
  rw [BitVec.toNat_xor, toNat_ofInt64 (by omega), toNat_ofInt64 (by omega)]
  have := Nat.xor_lt_two_pow ha hb
  exact wrap_i64 (by omega) (by omega)
theorem bor64 {a b : Nat} (ha : a < 2 ^ 63) (hb : b < 2 ^ 63) :
    IntKind.wrap .i64 (((BitVec.ofInt (IntKind.bits .i64) (a : Int) ||| BitVec.ofInt (IntKind.bits .i64) (b : Int)).toNat : Nat) : Int) = ((a ||| b : Nat) : Int) := by
  rw [BitVec.toNat_or, toNat_ofInt64 (by omega), toNat_ofInt64 (by omega)]
  have := Nat.or_lt_two_pow ha hb
  exact wrap_i64 (by omega) (by omega)
theorem band64 {a b : Nat} (ha : a < 2 ^ 63) (hb : b < 2 ^ 63) :
    IntKind.wrap .i64 (((BitVec.ofInt (IntKind.bits .i64) (a : Int) &&& BitVec.ofInt (IntKind.bits .i64) (b : Int)).toNat : Nat) : Int) = ((a &&& b : Nat) : Int) := by
  rw [BitVec.toNat_and, toNat_ofInt64 (by omega), toNat_ofInt64 (by omega)]
  have := Nat.and_lt_two_pow a hb
  exact wrap_i64 (by omega) (by omega)
theorem bxor8 {a b : Nat} (ha : a < 256) (hb : b < 256) :
    IntKind.wrap .u8 (((BitVec.ofInt (IntKind.bits .u8) (a : Int) ^^^ BitVec.ofInt (IntKind.bits .u8) (b : Int)).toNat : Nat) : Int) = ((a ^^^ b : Nat) : Int) := by
  rw [BitVec.toNat_xor, toNat_ofInt8 ha, toNat_ofInt8 hb]
  have := Nat.xor_lt_two_pow (n := 8) ha hb
  exact wrap_u8 (by omega) (by omega)
theorem getElem?_toNat {α : Type} {l : List α} {k : Nat} (h : k < l.length) : l[Int.toNat (k : Int)]? = some l[k] := by simp [h]
end Go.Abs

/- The field of 16 elements, by both programs. -/
namespace Go.Abs
open Go
set_option maxRecDepth 100000

/-- The product. -/
noncomputable def T1 (a b : Nat) : Nat := ((iterO G366_1 6 (0, ((b : Int), (a : Int)))).getD 0).toNat
def okT (f : Nat → Nat → Bool) : Bool := (List.range 16).all fun a => (List.range 16).all fun b => f a b
theorem okT_spec {f : Nat → Nat → Bool} (h : okT f = true) {a b : Nat} (ha : a < 16) (hb : b < 16) : f a b = true := by
  have := List.all_eq_true.1 h a (List.mem_range.2 ha)
  exact List.all_eq_true.1 this b (List.mem_range.2 hb)

theorem T1_check : okT (fun a b => decide (iterO G366_1 6 (0, ((b : Int), (a : Int))) = some (T1 a b : Int)) && decide (T1 a b < 16)) = true := by kernel_rfl
theorem T1_lt {a b : Nat} (ha : a < 16) (hb : b < 16) : T1 a b < 16 := by
  have := okT_spec T1_check ha hb
  simp only [Bool.and_eq_true, decide_eq_true_eq] at this
  exact this.2
theorem g366_eq {a b : Nat} (ha : a < 16) (hb : b < 16) : g366 ((a : Int), (b : Int)) = some (T1 a b : Int) := by
  have := okT_spec T1_check ha hb
  simp only [Bool.and_eq_true, decide_eq_true_eq] at this
  exact loopO_iter 6 this.1

theorem elem_nat {a : Nat} (h : a < 16) : g365 (a : Int) = some true := by
  have h1 : decide ((a : Int) ≥ 0) = true := by simp
  have h2 : decide ((a : Int) < 16) = true := by simp; omega
  simp only [g365, G365, h1, h2, cond_true, Option.bind_some]
theorem g350_eq {a b : Nat} (ha : a < 16) (hb : b < 16) : g350 ((a : Int), (b : Int)) = some ((T1 a b : Int), 0) := by
  simp only [g350, G350, elem_nat ha, elem_nat hb, Option.bind_some, Bool.not_true, cond_false, g366_eq ha hb]
theorem g306_eq {a b : Nat} (ha : a < 16) (hb : b < 16) : g306 ((a : Int), (b : Int)) = some (T1 a b : Int) := by
  simp only [g306, G306, g350_eq ha hb, Option.bind_some]
/-! Inverses. -/
noncomputable def powT (a : Nat) : Nat → Nat
  | 0 => 1
  | n + 1 => T1 (powT a n) a
theorem powT_lt {a : Nat} (ha : a < 16) : ∀ n, powT a n < 16
  | 0 => by simp [powT]
  | n + 1 => T1_lt (powT_lt ha n) ha
noncomputable def inv1 (a : Nat) : Nat := powT a 14
/-- What a Cauchy matrix has there. -/
noncomputable def invZ (a : Nat) : Nat := if a = 0 then 0 else inv1 a
theorem invZ_lt {a : Nat} (ha : a < 16) : invZ a < 16 := by
  unfold invZ; split
  · omega
  · exact powT_lt ha 14
theorem g304_eq {a : Nat} (ha : a < 16) : g304 (a : Int) = some ((invZ a : Int), if a = 0 then 6 else 0) := by
  have hneg : (Neg.neg (1 : Int)) = -1 := rfl
  simp only [g304, G304, g349, G349, elem_nat ha, Option.bind_some, Bool.not_true, cond_false]
  have h1 : ((Neg.neg (1 : Int)) == 0) = false := rfl
  rw [h1, cond_false]
  by_cases h0 : a = 0
  · subst h0
    rfl
  · have h2 : ((a : Int) == 0) = false := by simp [h0]
    simp only [h2, cond_false, Option.bind_some]
    rw [guardT_pos (by decide), guardT_pos (by decide)]
    have h3 : Int.tmod (IntKind.wrap IntKind.i64 ((Int.tmod (Neg.neg (1 : Int)) 15) + 15)) 15 = 14 := by decide
    rw [h3]
    have := loopO_for (f := G349_1 g366) (fun k => ((k : Int), ((14 : Int), ((powT a k : Int), (a : Int))))) 14 (r := ((inv1 a : Int), 0)) (by
      intro k hk
      have d1 : decide (((k : Nat) : Int) < 14) = true := by simp; omega
      simp only [G349_1, d1, cond_true, g366_eq (powT_lt ha k) ha, Option.bind_some, wrap_i64_succ (show k < 9223372036854775807 by omega)]
      rfl) (by
      simp only [G349_1]; rfl)
    simp only [invZ, if_neg h0]
    have e := this
    simp only [Int.ofNat_zero] at e
    rw [show ((0 : Int), ((14 : Int), ((1 : Int), (a : Int)))) = (((0 : Nat) : Int), ((14 : Int), ((powT a 0 : Int), (a : Int)))) from rfl, this]
    rfl
end Go.Abs

/- Digests, bytes of numbers, sealed texts: both programs. -/
namespace Go.Abs
open Go Go.Proofs
set_option maxRecDepth 100000

/-! ### The digest -/
def sumStep (d : Int) (b : UInt8) : Int := (d * 1000003 + (b.toNat : Int) + 1) % 2147483647
def sumB (s : List UInt8) : Int := s.foldl sumStep 1
theorem sumStep_range (d : Int) (b : UInt8) : 0 ≤ sumStep d b ∧ sumStep d b < 2147483647 := by unfold sumStep; omega
theorem foldl_range : ∀ (s : List UInt8) (d : Int), 0 ≤ d → d < 2147483647 → 0 ≤ s.foldl sumStep d ∧ s.foldl sumStep d < 2147483647
  | [], d, h1, h2 => ⟨h1, h2⟩
  | b :: s, d, _, _ => foldl_range s _ (sumStep_range d b).1 (sumStep_range d b).2
theorem sumB_range (s : List UInt8) : 0 ≤ sumB s ∧ sumB s < 2147483647 := foldl_range s 1 (by omega) (by omega)
theorem sum_step {d : Int} {b : UInt8} (h1 : 0 ≤ d) (h2 : d < 2147483647) :
    Int.tmod (IntKind.wrap .i64 (IntKind.wrap .i64 (IntKind.wrap .i64 (d * 1000003) + IntKind.wrap .i64 ((b.toNat : Nat) : Int)) + 1)) 2147483647 = sumStep d b := by
  have hb : b.toNat < 256 := b.toNat_lt
  rw [wrap_i64 (x := d * 1000003) (by omega) (by omega), wrap_i64 (x := ((b.toNat : Nat) : Int)) (by omega) (by omega), wrap_i64 (x := d * 1000003 + (b.toNat : Int)) (by omega) (by omega), wrap_i64 (by omega) (by omega)]
  unfold sumStep
  exact Int.tmod_eq_emod_of_nonneg (by omega)
theorem foldl_take_succ {s : List UInt8} {k : Nat} (h : k < s.length) : (s.take (k + 1)).foldl sumStep 1 = sumStep ((s.take k).foldl sumStep 1) s[k] := by
  rw [List.take_succ_eq_append_getElem h, List.foldl_append]; rfl
theorem g107_eq {s : List UInt8} (hs : s.length < 2 ^ 62) : g107 s = some (sumB s) := by
  have := loopO_for (f := G107_1) (fun k => ((k : Int), ((s.length : Int), ((s.take k).foldl sumStep 1, s)))) s.length (r := sumB s) (by
    intro k hk
    have d1 : decide ((k : Int) < (s.length : Int)) = true := by simp; exact hk
    have hr := foldl_range (s.take k) 1 (by omega) (by omega)
    simp only [G107_1, d1, cond_true]
    rw [guardT_pos (by omega), getElem?_toNat hk, Option.bind_some, guardT_pos (by decide), sum_step hr.1 hr.2, wrap_i64_succ (by omega), foldl_take_succ hk]) (by
    have d1 : decide ((s.length : Int) < (s.length : Int)) = false := by simp
    simp only [G107_1, d1, cond_false, List.take_length]; rfl)
  exact this
theorem g63_eq {s : List UInt8} (hs : s.length < 2 ^ 62) : g63 s = some (sumB s) := by
  have := loopO_for (f := G63_1) (fun k => ((k : Int), ((s.take k).foldl sumStep 1, s))) s.length (r := sumB s) (by
    intro k hk
    have d1 : decide ((k : Int) < (s.length : Int)) = true := by simp; exact hk
    have hr := foldl_range (s.take k) 1 (by omega) (by omega)
    simp only [G63_1, d1, cond_true]
    rw [guardT_pos (by omega), getElem?_toNat hk, Option.bind_some, guardT_pos (by decide), sum_step hr.1 hr.2, wrap_i64_succ (by omega), foldl_take_succ hk]) (by
    have d1 : decide ((s.length : Int) < (s.length : Int)) = false := by simp
    simp only [G63_1, d1, cond_false, List.take_length]; rfl)
  exact this

/-! ### Bytes of numbers -/
theorem vints_length : ∀ (k : Nat) (u : Int), (Tryz.vints k u).length ≤ k
  | 0, _ => by simp [Tryz.vints]
  | k + 1, u => by
    unfold Tryz.vints; split
    · simp only [List.length_cons]; have := vints_length k (Tryz.rest7 u); omega
    · simp
theorem putBytes_length (n : Int) : (Tryz.putBytes n).length ≤ 10 := by
  unfold Tryz.putBytes; rw [List.length_map]; exact vints_length _ _
theorem putBytes_pos (n : Int) : 1 ≤ (Tryz.putBytes n).length := by
  unfold Tryz.putBytes; rw [List.length_map]; unfold Tryz.vints; split <;> simp

theorem g192_eq {s : List UInt8} (n : Int) (hs : s.length ≤ 2 ^ 40) : g192 (s, n) = some (s ++ Tryz.putBytes n) := by
  simp only [g192]; rw [if_pos hs]

/-! ### Sealed texts -/
def keyOk (k : Int) : Bool := decide (0 ≤ k) && decide (k < 4294967294)
theorem g188_eq (k : Int) : g188 k = some (keyOk k) := by
  simp only [g188, G188, keyOk, ge_iff_le]
  cases decide (0 ≤ k) <;> simp
/-- The bytes of a sealed text. -/
def sealB (t : List UInt8) (k : Int) : List UInt8 := Tryz.putBytes (3 * k + 1) ++ Tryz.putBytes (t.length : Int) ++ t
theorem nilB : (Array.toList (ByteArray.data (ByteArray.mk (List.toArray ([] : List UInt8))))) = [] := rfl
theorem g104_eq (t : List UInt8) (k : Int) (ht : t.length ≤ 16384) : g104 (t, k) = some (if keyOk k then ((3 * k + 1, t), 0) else ((0, []), 1)) := by
  simp only [g104, G104, g188_eq, Option.bind_some]
  cases hk : keyOk k with
  | false => rfl
  | true =>
    simp only [keyOk, Bool.and_eq_true, decide_eq_true_eq] at hk
    have d : decide ((t.length : Int) > 16384) = false := by simp; omega
    simp only [Bool.not_true, cond_false, d, g189, G189, Option.bind_some, if_true]
    rw [wrap_i64 (x := 3 * k) (by omega) (by omega), wrap_i64 (by omega) (by omega)]
theorem lock_facts {k : Int} (hk : keyOk k = true) : decide (3 * k + 1 > 0) = true ∧ decide (3 * k + 1 ≥ 1) = true ∧ (Int.tmod (3 * k + 1) 3 == 1) = true ∧ IntKind.wrap .i64 (Int.tdiv (3 * k + 1) 3) = k := by
  simp only [keyOk, Bool.and_eq_true, decide_eq_true_eq] at hk
  refine ⟨by simp; omega, by simp; omega, ?_, ?_⟩
  · rw [Int.tmod_eq_emod_of_nonneg (by omega)]
    have : (3 * k + 1) % 3 = 1 := by omega
    rw [this]; rfl
  · rw [Int.tdiv_eq_ediv_of_nonneg (by omega)]
    have : (3 * k + 1) / 3 = k := by omega
    rw [this]; exact wrap_i64 (by omega) (by omega)
theorem g105_eq (t : List UInt8) (k : Int) (ht : t.length ≤ 16384) (hk : keyOk k = true) : g105 (3 * k + 1, t) = some (sealB t k, 0) := by
  obtain ⟨l1, l2, l3, l4⟩ := lock_facts hk
  have d : decide ((t.length : Int) ≤ 16384) = true := by simp; omega
  have h1 : g190 (3 * k + 1, t) = some true := by
    simp only [g190, G190, g246, G246]
    rw [guardT_pos (by decide), guardT_pos (by decide), l1, l3, l4, g188_eq, hk]
    simp only [cond_true, Option.bind_some, d]
  have p1 := putBytes_length (3 * k + 1)
  have p2 := putBytes_length (t.length : Int)
  simp only [g105, G105, h1, Option.bind_some, Bool.not_true, cond_false, nilB]
  rw [g192_eq _ (by simp)]
  simp only [Option.bind_some, List.nil_append, g191, G191]
  rw [g192_eq _ (by omega)]
  simp only [Option.bind_some]
  rw [guardT_pos (by simp; omega)]
  rfl
theorem sealB_length (t : List UInt8) (k : Int) : 2 ≤ (sealB t k).length ∧ (sealB t k).length ≤ t.length + 20 := by
  have p1 := putBytes_length (3 * k + 1)
  have p2 := putBytes_length (t.length : Int)
  have q1 := putBytes_pos (3 * k + 1)
  have q2 := putBytes_pos (t.length : Int)
  simp only [sealB, List.length_append]; omega
end Go.Abs

/- The matrices of the codes: both programs. -/
namespace Go.Abs
open Go Go.Proofs
set_option maxRecDepth 100000

def idC (n : Nat) : Nat → List Int
  | 0 => List.replicate (n * n) 0
  | k + 1 => (idC n k).set (k * n + k) 1
theorem idC_length (n : Nat) : ∀ k, (idC n k).length = n * n
  | 0 => by simp [idC]
  | k + 1 => by simp [idC, idC_length n k]
theorem idC_small (n : Nat) : ∀ k, ∀ x ∈ idC n k, ∃ a : Nat, a < 16 ∧ x = (a : Int)
  | 0, x, h => ⟨0, by omega, by simp [idC] at h; simp [h]⟩
  | k + 1, x, h => by
    rcases List.mem_or_eq_of_mem_set h with h | h
    · exact idC_small n k x h
    · exact ⟨1, by omega, by simp [h]⟩
theorem diag_lt {n k : Nat} (h : k < n) : k * n + k < n * n := by
  have : (k + 1) * n ≤ n * n := Nat.mul_le_mul_right n h
  rw [Nat.add_mul] at this; omega
theorem mul_cast (a b : Nat) : ((a : Int) * (b : Int)) = ((a * b : Nat) : Int) := by simp
theorem sq_le {n : Nat} (h : n ≤ 16) : n * n ≤ 256 := Nat.mul_le_mul h h

theorem g248_eq {n : Nat} (h1 : 1 ≤ n) (h2 : n ≤ 16) : g248 (n : Int) = some ((n : Int), ((n : Int), (idC n n, 0))) := by
  have d1 : decide ((n : Int) < 1) = false := by simp; omega
  have d2 : decide ((n : Int) > 16) = false := by simp; omega
  have hs := sq_le h2
  simp only [g248, G248, d1, d2, cond_false, Option.bind_some]
  rw [mul_cast, wrap_i64 (by omega) (by omega), guardT_pos (by constructor <;> (simp; try omega))]
  have := loopO_for (f := G248_1) (fun k => (idC n k, ((k : Int), ((n : Int), ((n : Int), ((n : Int), ((n : Int), ((0 : Int), (0 : Int))))))))) n (r := ((n : Int), ((n : Int), (idC n n, 0)))) (by
    intro k hk
    have hd := diag_lt hk
    have dk : decide ((k : Int) < (n : Int)) = true := by simp; exact hk
    simp only [G248_1, dk, cond_true]
    rw [mul_cast, wrap_i64 (x := ((k * n : Nat) : Int)) (by omega) (by omega), show ((k * n : Nat) : Int) + (k : Int) = ((k * n + k : Nat) : Int) by omega, wrap_i64 (by omega) (by omega)]
    rw [guardT_pos (by rw [idC_length]; omega), getElem?_toNat (by rw [idC_length]; exact hd), Option.bind_some, wrap_i64_succ (by omega)]
    rfl) (by
    have dk : decide ((n : Int) < (n : Int)) = false := by simp
    simp only [G248_1, dk, cond_false])
  rw [Int.toNat_natCast]
  exact this
noncomputable def rowC (r i k : Nat) : List Int := (List.range k).map fun j => (invZ (i ^^^ (r + j)) : Int)
noncomputable def cauTo (r c : Nat) : Nat → List Int
  | 0 => []
  | i + 1 => cauTo r c i ++ rowC r i c
theorem rowC_length (r i k : Nat) : (rowC r i k).length = k := by simp [rowC]
theorem cauTo_length (r c : Nat) : ∀ i, (cauTo r c i).length = i * c
  | 0 => by simp [cauTo]
  | i + 1 => by simp [cauTo, rowC_length, cauTo_length r c i, Nat.add_mul]
theorem rowC_succ (r i k : Nat) : rowC r i (k + 1) = rowC r i k ++ [(invZ (i ^^^ (r + k)) : Int)] := by simp [rowC, List.range_succ]
theorem xor16 {a b : Nat} (ha : a < 16) (hb : b < 16) : a ^^^ b < 16 := Nat.xor_lt_two_pow (n := 4) ha hb
theorem rowC_small {r i k : Nat} (hi : i < 16) (h : r + k ≤ 16) : ∀ x ∈ rowC r i k, ∃ a : Nat, a < 16 ∧ x = (a : Int) := by
  intro x hx
  simp only [rowC, List.mem_map, List.mem_range] at hx
  obtain ⟨j, hj, rfl⟩ := hx
  exact ⟨_, invZ_lt (xor16 hi (by omega)), rfl⟩
theorem cauTo_small {r c : Nat} (h : r + c ≤ 16) : ∀ i, i ≤ r → i < 16 → ∀ x ∈ cauTo r c i, ∃ a : Nat, a < 16 ∧ x = (a : Int)
  | 0, _, _, x, hx => by simp [cauTo] at hx
  | i + 1, hi, h16, x, hx => by
    simp only [cauTo, List.mem_append] at hx
    rcases hx with hx | hx
    · exact cauTo_small h i (by omega) (by omega) x hx
    · exact rowC_small (by omega) h x hx

theorem cells_le {i c : Nat} (hi : i ≤ 16) (hc : c ≤ 16) : i * c ≤ 256 := Nat.mul_le_mul hi hc
theorem g249_eq {r c : Nat} (hr : 1 ≤ r) (hc : 1 ≤ c) (h : r + c ≤ 16) : g249 ((r : Int), (c : Int)) = some (((r : Int), ((c : Int), cauTo r c r)), 0) := by
  have d1 : decide ((r : Int) < 1) = false := by simp; omega
  have d2 : decide ((c : Int) < 1) = false := by simp; omega
  have d3 : decide ((r : Int) > 16) = false := by simp; omega
  have d4 : decide ((c : Int) > 16) = false := by simp; omega
  have d5 : decide (IntKind.wrap .i64 ((r : Int) + (c : Int)) > 16) = false := by rw [wrap_i64 (by omega) (by omega)]; simp; omega
  simp only [g249, G249, d1, d2, d3, d4, d5, cond_false, Option.bind_some]
  refine loopO_for (f := G249_1 g304) (fun i => (cauTo r c i, ((i : Int), ((r : Int), ((c : Int), ((r : Int), ((r : Int), ((c : Int), ((0 : Int), (0 : Int))))))))) ) r ?_ ?_
  · intro i hi
    have di : decide ((i : Int) < (r : Int)) = true := by simp; exact hi
    simp only [G249_1, di, cond_true]
    refine Eq.trans (loopO_for (f := G249_2 g304) (fun k => (cauTo r c i ++ rowC r i k, ((k : Int), ((c : Int), ((i : Int), ((r : Int), ((i : Int), ((c : Int), ((r : Int), ((r : Int), ((c : Int), ((0 : Int), (0 : Int)))))))))))) ) c
      (r := Sum.inl (cauTo r c (i + 1), (((i + 1 : Nat) : Int), ((r : Int), ((c : Int), ((r : Int), ((r : Int), ((c : Int), ((0 : Int), (0 : Int)))))))))) ?_ ?_) rfl |> fun e => by simpa [rowC] using e
    · intro k hk
      have dk : decide ((k : Int) < (c : Int)) = true := by simp; exact hk
      have hx := xor16 (a := i) (b := r + k) (by omega) (by omega)
      have hl := cells_le (i := i) (c := c) (by omega) (by omega)
      simp only [G249_2, dk, cond_true]
      rw [show (r : Int) + (k : Int) = ((r + k : Nat) : Int) by omega, wrap_i64 (x := ((r + k : Nat) : Int)) (by omega) (by omega), bxor64 (by omega) (by omega), g304_eq hx]
      simp only [Option.bind_some]
      rw [guardT_pos (by simp only [List.length_append, cauTo_length, rowC_length, List.length_cons, List.length_nil]; omega), wrap_i64_succ (by omega), List.append_assoc, ← rowC_succ]
    · have dk : decide ((c : Int) < (c : Int)) = false := by simp
      simp only [G249_2, dk, cond_false]
      rw [wrap_i64_succ (by omega)]
      rfl
  · have di : decide ((r : Int) < (r : Int)) = false := by simp
    simp only [G249_1, di, cond_false]
theorem g249_zero (c : Int) : g249 ((0 : Int), c) = some (((0 : Int), ((0 : Int), [])), 1) := by
  simp only [g249, G249]; rfl
/-- The cells of the rows of all shards. -/
noncomputable def rowsC (need all : Nat) : List Int := idC need need ++ cauTo (all - need) need (all - need)
theorem rowsC_length {need all : Nat} (h : need ≤ all) : (rowsC need all).length = all * need := by
  simp only [rowsC, List.length_append, idC_length, cauTo_length]
  rw [← Nat.add_mul]; congr 1; omega
theorem rowsC_small {need all : Nat} (h0 : 1 ≤ need) (h : need ≤ all) (h16 : all ≤ 16) : ∀ x ∈ rowsC need all, ∃ a : Nat, a < 16 ∧ x = (a : Int) := by
  intro x hx
  simp only [rowsC, List.mem_append] at hx
  rcases hx with hx | hx
  · exact idC_small _ _ x hx
  · exact cauTo_small (by omega) _ (Nat.le_refl _) (by omega) x hx
theorem g193_eq {need all : Nat} (h0 : 1 ≤ need) (h : need ≤ all) (h16 : all ≤ 16) : g193 ((need : Int), (all : Int)) = some ((all : Int), ((need : Int), rowsC need all)) := by
  simp only [g193, G193, g248_eq h0 (show need ≤ 16 by omega), Option.bind_some]
  rw [show (all : Int) - (need : Int) = ((all - need : Nat) : Int) by omega, wrap_i64 (by omega) (by omega)]
  have hs := sq_le (n := need) (by omega)
  by_cases e : all = need
  · subst e
    rw [Nat.sub_self]
    rw [show ((0 : Nat) : Int) = 0 from rfl, g249_zero]
    simp only [Option.bind_some]
    have : ((1 : Int) == 0) = false := rfl
    rw [this, cond_false]
    simp [rowsC, cauTo]
  · rw [g249_eq (by omega) h0 (by omega)]
    simp only [Option.bind_some]
    have : ((0 : Int) == 0) = true := rfl
    have hl := cells_le (i := all - need) (c := need) (by omega) (by omega)
    rw [this, cond_true, guardT_pos (by rw [idC_length, cauTo_length]; omega)]
    rfl
end Go.Abs
