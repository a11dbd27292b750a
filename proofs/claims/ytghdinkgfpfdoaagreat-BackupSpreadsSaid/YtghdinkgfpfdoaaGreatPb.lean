import Derived.Test.YtghdinkgfpfdoaaGreatPa
import Derived.Test.YtghdinkgfpfdoaaGreatFc
/- The shards: both programs. -/
namespace Go.Abs
open Go Go.Proofs
set_option maxRecDepth 100000

theorem nib_or {a b c d : Nat} (ha : a < 16) (hc : c < 16) : (a ||| b * 16) ^^^ (c ||| d * 16) = (a ^^^ c) ||| (b ^^^ d) * 16 := by
  have e : ∀ x : Nat, x * 16 = x <<< 4 := fun x => by rw [Nat.shiftLeft_eq]
  rw [e, e, e]
  apply Nat.eq_of_testBit_eq
  intro i
  simp only [Nat.testBit_xor, Nat.testBit_or, Nat.testBit_shiftLeft]
  by_cases hi : i < 4
  · have : decide (i ≥ 4) = false := by simp; omega
    simp [this]
  · have h1 : a.testBit i = false := Nat.testBit_lt_two_pow (Nat.lt_of_lt_of_le ha (by
      have := Nat.pow_le_pow_right (n := 2) (by omega) (show 4 ≤ i by omega); omega))
    have h2 : c.testBit i = false := Nat.testBit_lt_two_pow (Nat.lt_of_lt_of_le hc (by
      have := Nat.pow_le_pow_right (n := 2) (by omega) (show 4 ≤ i by omega); omega))
    have : decide (i ≥ 4) = true := by simp; omega
    simp [h1, h2, this]
theorem nib_lt {a b : Nat} (ha : a < 16) (hb : b < 16) : (a ||| b * 16) < 256 := Nat.or_lt_two_pow (n := 8) (by omega) (by omega)

/-- What a byte adds. -/
noncomputable def cB (c b : Nat) : Nat := T1 c (b &&& 15) ||| T1 c (b / 16) * 16
theorem and15 (b : Nat) : b &&& 15 = b % 16 := Nat.and_two_pow_sub_one_eq_mod b 4
theorem cB_lt {c b : Nat} (hc : c < 16) (hb : b < 256) : cB c b < 256 := nib_lt (T1_lt hc (by rw [and15]; omega)) (T1_lt hc (by omega))

theorem set_range {n i : Nat} {f : Nat → Int} {v : Int} : ((List.range n).map f).set i v = (List.range n).map fun p => if p = i then v else f p := by
  apply List.ext_getElem
  · simp
  · intro j h1 h2
    simp only [List.getElem_set, List.getElem_map, List.getElem_range]
    by_cases h : i = j
    · simp [h]
    · simp [h, Ne.symm h]

theorem fdiv16 (b : Nat) : Int.fdiv (b : Int) (2 ^ (min (Int.toNat 4) (IntKind.bits .i64))) = ((b / 16 : Nat) : Int) := by
  show Int.fdiv (b : Int) 16 = _
  rw [Int.fdiv_eq_ediv_of_nonneg _ (by omega)]; simp
theorem g305_eq {b : Nat} (hb : b < 256) : g305 (b : Int) = some (((b &&& 15 : Nat) : Int), ((b / 16 : Nat) : Int)) := by
  simp only [g305, G305]
  rw [guardT_pos (by decide), fdiv16]
  have e15 : (15 : Int) = ((15 : Nat) : Int) := rfl
  rw [e15, band64 (by omega) (by omega), band64 (by omega) (by omega)]
  have : b / 16 &&& 15 = b / 16 := by rw [and15]; omega
  rw [this]
theorem byte_int (b : UInt8) : IntKind.wrap .i64 ((b.toNat : Nat) : Int) = ((b.toNat : Nat) : Int) := by
  have := b.toNat_lt
  exact wrap_i64 (by omega) (by omega)
theorem mul16 {x : Nat} (hx : x < 16) : IntKind.wrap .i64 ((x : Int) * 2 ^ (min (Int.toNat 4) (IntKind.bits .i64))) = ((x * 16 : Nat) : Int) := by
  show IntKind.wrap .i64 ((x : Int) * 16) = _
  rw [wrap_i64 (by omega) (by omega)]; simp

def byteAt (d : List UInt8) (p : Nat) : Nat := (d.getD p 0).toNat
theorem byteAt_lt (d : List UInt8) (p : Nat) : byteAt d p < 256 := (d.getD p 0).toNat_lt
theorem byteAt_get {d : List UInt8} {p : Nat} (h : p < d.length) : (d[p]).toNat = byteAt d p := by simp [byteAt, List.getD_eq_getElem?_getD, h]

theorem g250_eq {f : Nat → Nat} {c n : Nat} {d : List UInt8} (hf : ∀ p, p < n → f p < 256) (hc : c < 16) (hd : d.length = n) (hn : n < 2 ^ 60) :
    g250 ((List.range n).map (fun p => (f p : Int)), ((c : Int), d)) = some ((List.range n).map fun p => ((f p ^^^ cB c (byteAt d p) : Nat) : Int)) := by
  simp only [g250, G250]
  have := loopO_for (f := G250_1 g305 g306) (fun k => ((List.range n).map (fun p => ((if p < k then f p ^^^ cB c (byteAt d p) else f p : Nat) : Int)), ((k : Int), ((d.length : Int), (d, (c : Int)))))) n
    (r := (List.range n).map fun p => ((f p ^^^ cB c (byteAt d p) : Nat) : Int)) (by
    intro k hk
    have dk : decide ((k : Int) < (d.length : Int)) = true := by simp; omega
    have hb := byteAt_lt d k
    have hg : ∀ (h : Nat → Int), ((List.range n).map h)[Int.toNat (k : Int)]? = some (h k) := by intro h; simp [hk]
    simp only [G250_1, dk, cond_true]
    rw [guardT_pos (by omega), getElem?_toNat (by omega), Option.bind_some, byte_int, byteAt_get (by omega), g305_eq hb]
    simp only [Option.bind_some]
    rw [guardT_pos (by simp; omega), hg]
    simp only [Option.bind_some]
    have t1 := T1_lt hc (show byteAt d k &&& 15 < 16 by rw [and15]; omega)
    have t2 := T1_lt hc (show byteAt d k / 16 < 16 by omega)
    rw [g306_eq hc (by rw [and15]; omega), Option.bind_some, g306_eq hc (by omega), Option.bind_some]
    rw [guardT_pos (by decide), guardT_pos (by simp; omega), mul16 t2, bor64 (by omega) (by omega)]
    have hcb : (T1 c (byteAt d k &&& 15) ||| T1 c (byteAt d k / 16) * 16) = cB c (byteAt d k) := rfl
    have hcl := cB_lt hc hb
    rw [hcb, wrap_u8 (x := ((cB c (byteAt d k) : Nat) : Int)) (by omega) (by omega)]
    simp only [Option.bind_some, Nat.lt_irrefl, if_false]
    rw [bxor8 (hf k hk) hcl, set_range, wrap_i64_succ (by omega)]
    congr 3
    apply List.map_congr_left
    intro p hp
    by_cases e : p = k
    · subst e; simp
    · have : (p < k + 1) ↔ p < k := by omega
      simp [e, this]) (by
    have dk : decide ((n : Int) < (d.length : Int)) = false := by simp; omega
    simp only [G250_1, dk, cond_false, Option.some.injEq, Sum.inr.injEq]
    apply List.map_congr_left
    intro p hp
    simp [List.mem_range.1 hp])
  simpa using this

section
variable (row : List Int) (parts : List (List UInt8))
def rowN (j : Nat) : Nat := (row.getD j 0).toNat
noncomputable def lowT (p : Nat) : Nat → Nat
  | 0 => 0
  | k + 1 => lowT p k ^^^ T1 (rowN row k) (byteAt (parts.getD k []) p &&& 15)
noncomputable def highT (p : Nat) : Nat → Nat
  | 0 => 0
  | k + 1 => highT p k ^^^ T1 (rowN row k) (byteAt (parts.getD k []) p / 16)
noncomputable def accT (p k : Nat) : Nat := lowT row parts p k ||| highT row parts p k * 16
/-- A shard. -/
noncomputable def shardB (n : Nat) : List UInt8 := (List.range n).map fun p => UInt8.ofNat (accT row parts p row.length)
end

structure RowOk (row : List Int) (parts : List (List UInt8)) (n : Nat) : Prop where
  small : ∀ x ∈ row, ∃ a : Nat, a < 16 ∧ x = (a : Int)
  len : row.length ≤ parts.length
  each : ∀ d ∈ parts, d.length = n
  max : n < 2 ^ 20
  few : row.length < 2 ^ 20

theorem RowOk.row {row : List Int} {parts : List (List UInt8)} {n : Nat} (h : RowOk row parts n) {j : Nat} (hj : j < row.length) : rowN row j < 16 ∧ row[j] = (rowN row j : Int) := by
  obtain ⟨a, ha, e⟩ := h.small row[j] (List.getElem_mem hj)
  have : rowN row j = a := by simp [rowN, List.getD_eq_getElem?_getD, hj, e]
  rw [this, e]; exact ⟨ha, rfl⟩
theorem RowOk.part {row : List Int} {parts : List (List UInt8)} {n : Nat} (h : RowOk row parts n) {j : Nat} (hj : j < row.length) : parts[j]'(Nat.lt_of_lt_of_le hj h.len) = parts.getD j [] ∧ (parts.getD j []).length = n := by
  have hp : j < parts.length := Nat.lt_of_lt_of_le hj h.len
  have e : parts.getD j [] = parts[j] := by simp [List.getD_eq_getElem?_getD, hp]
  rw [e]; exact ⟨rfl, h.each _ (List.getElem_mem hp)⟩
theorem lowT_lt {row : List Int} {parts : List (List UInt8)} {n : Nat} (h : RowOk row parts n) (p : Nat) : ∀ k, k ≤ row.length → lowT row parts p k < 16 ∧ highT row parts p k < 16
  | 0, _ => by simp [lowT, highT]
  | k + 1, hk => by
    obtain ⟨h1, h2⟩ := lowT_lt h p k (by omega)
    have hr := (h.row (j := k) (by omega)).1
    have hb := byteAt_lt (parts.getD k []) p
    exact ⟨xor16 h1 (T1_lt hr (by rw [and15]; omega)), xor16 h2 (T1_lt hr (by omega))⟩
theorem accT_succ {row : List Int} {parts : List (List UInt8)} {n : Nat} (h : RowOk row parts n) (p : Nat) {k : Nat} (hk : k < row.length) : accT row parts p (k + 1) = accT row parts p k ^^^ cB (rowN row k) (byteAt (parts.getD k []) p) := by
  obtain ⟨h1, h2⟩ := lowT_lt h p k (by omega)
  have hr := (h.row hk).1
  have hb := byteAt_lt (parts.getD k []) p
  unfold accT cB
  rw [nib_or h1 (T1_lt hr (by rw [and15]; omega))]
  rfl
theorem accT_lt {row : List Int} {parts : List (List UInt8)} {n : Nat} (h : RowOk row parts n) (p : Nat) {k : Nat} (hk : k ≤ row.length) : accT row parts p k < 256 := by
  obtain ⟨h1, h2⟩ := lowT_lt h p k hk
  exact nib_lt h1 h2

theorem bytes_map (n : Nat) (f : Nat → Nat) : ((List.range n).map fun p => (f p : Int)).map (fun x : Int => UInt8.ofNat x.toNat) = (List.range n).map fun p => UInt8.ofNat (f p) := by
  rw [List.map_map]; apply List.map_congr_left; intro p _; simp

theorem g194_eq {row : List Int} {parts : List (List UInt8)} {n : Nat} (h : RowOk row parts n) : g194 (row, (parts, (n : Int))) = some (shardB row parts n) := by
  have hm := h.max
  have hw := h.few
  simp only [g194, G194]
  rw [guardT_pos (by constructor <;> (simp; try omega)), Int.toNat_natCast]
  have := loopO_for (f := G194_1 g250) (fun k => ((List.range n).map (fun p => ((accT row parts p k : Nat) : Int)), ((k : Int), ((row.length : Int), (row, parts))))) row.length
    (r := shardB row parts n) (by
    intro k hk
    have dk : decide ((k : Int) < (row.length : Int)) = true := by simp; exact hk
    obtain ⟨r1, r2⟩ := h.row hk
    obtain ⟨p1, p2⟩ := h.part hk
    simp only [G194_1, dk, cond_true]
    rw [guardT_pos (by omega), getElem?_toNat hk, Option.bind_some, guardT_pos (by omega), getElem?_toNat (Nat.lt_of_lt_of_le hk h.len), Option.bind_some, r2, p1]
    rw [g250_eq (fun p _ => accT_lt h p (Nat.le_of_lt hk)) r1 p2 (by omega), Option.bind_some, guardT_pos (by simp), wrap_i64_succ (by omega)]
    congr 3
    apply List.map_congr_left
    intro p _
    rw [accT_succ h p hk]) (by
    have dk : decide ((row.length : Int) < (row.length : Int)) = false := by simp
    simp only [G194_1, dk, cond_false]
    rw [bytes_map]; rfl)
  have e0 : (List.range n).map (fun p => ((accT row parts p 0 : Nat) : Int)) = List.replicate n 0 := by
    apply List.ext_getElem
    · simp
    · intro i h1 h2; simp [accT, lowT, highT]
  rw [e0] at this
  exact this

theorem shardB_length (row : List Int) (parts : List (List UInt8)) (n : Nat) : (shardB row parts n).length = n := by simp [shardB]
end Go.Abs

/- The shards of data, and stripes: both programs. -/
namespace Go.Abs
open Go Go.Proofs
set_option maxRecDepth 100000

def codeOk (a b : Int) : Bool := decide (1 ≤ a) && decide (a ≤ b) && decide (b ≤ 16)
theorem codeOk_iff {a b : Int} : codeOk a b = true ↔ 1 ≤ a ∧ a ≤ b ∧ b ≤ 16 := by simp [codeOk, and_assoc]
theorem check_eq (a b : Int) : ((bif (decide (a < (1 : Int))) then (some Bool.true) else (bif (decide (a > b)) then (some Bool.true) else (some (decide (b > (16 : Int)))))).bind (fun (x1 : Bool) => (bif x1 then (some (1 : Int)) else (some (0 : Int))))) = some (if codeOk a b then 0 else 1) := by
  by_cases h1 : a < 1
  · have : codeOk a b = false := by simp [codeOk]; omega
    simp [h1, this]
  · by_cases h2 : a > b
    · have : codeOk a b = false := by simp [codeOk]; omega
      simp [h1, h2, this]
    · by_cases h3 : b > 16
      · have : codeOk a b = false := by simp [codeOk]; omega
        simp [h1, h2, h3, this]
      · have : codeOk a b = true := by simp [codeOk]; omega
        simp [h1, h2, h3, this]
theorem g44_eq (a b : Int) : g44 (a, b) = some (if codeOk a b then 0 else 1) := check_eq a b
theorem g46_eq (a b : Int) : g46 (a, b) = some (if codeOk a b then 0 else 1) := check_eq a b

/-- How long the shards are. -/
def nOf (need L : Nat) : Nat := (L + need - 1) / need
theorem nOf_facts {need L : Nat} (h : 1 ≤ need) : L ≤ nOf need L * need ∧ nOf need L * need < L + need := by
  unfold nOf
  have h1 := Nat.div_add_mod (L + need - 1) need
  have h2 := Nat.mod_lt (L + need - 1) (show need > 0 by omega)
  rw [Nat.mul_comm] at h1
  omega
theorem nOf_le {need L : Nat} (h : 1 ≤ need) (hL : L ≤ need * 1024) : nOf need L ≤ 1024 := by
  unfold nOf
  have : (L + need - 1) / need < 1025 := by
    rw [Nat.div_lt_iff_lt_mul (by omega)]; omega
  omega
theorem nOf_gt {need L : Nat} (h : 1 ≤ need) (hL : need * 1024 < L) : 1024 < nOf need L := by
  unfold nOf
  have : 1025 ≤ (L + need - 1) / need := by
    rw [Nat.le_div_iff_mul_le (by omega)]; omega
  omega
theorem nOf_div {need L : Nat} (h : 1 ≤ need) : nOf need L = if L % need > 0 then L / need + 1 else L / need := by
  unfold nOf
  have h1 := Nat.div_add_mod L need
  have h2 := Nat.mod_lt L (show need > 0 by omega)
  split
  · rename_i h3
    have : L + need - 1 = need * (L / need + 1) + (L % need - 1) := by rw [Nat.mul_add]; omega
    rw [this, Nat.mul_add_div (show need > 0 by omega), Nat.div_eq_of_lt (show L % need - 1 < need by omega)]; try omega
  · have : L + need - 1 = need * (L / need) + (need - 1) := by omega
    rw [this, Nat.mul_add_div (show need > 0 by omega), Nat.div_eq_of_lt (show need - 1 < need by omega)]; try omega
def lenR (need L : Nat) : Int × Int := if L ≤ need * 1024 then ((nOf need L : Int), 0) else (0, 4)
theorem g112_eq {need all L : Nat} (h0 : 1 ≤ need) (h : need ≤ all) (h16 : all ≤ 16) (hL : L < 2 ^ 40) : g112 (((need : Int), (all : Int)), (L : Int)) = some (lenR need L) := by
  have hc : codeOk (need : Int) (all : Int) = true := codeOk_iff.2 ⟨by omega, by omega, by omega⟩
  have d1 : decide ((L : Int) < 0) = false := by simp
  have hne : (need : Int) ≠ 0 := by omega
  have hdiv : L / need ≤ L := Nat.div_le_self _ _
  have e1 : Int.tmod (L : Int) (need : Int) = ((L % need : Nat) : Int) := by rw [Int.tmod_eq_emod_of_nonneg (by omega)]; simp
  have e2 : Int.tdiv (L : Int) (need : Int) = ((L / need : Nat) : Int) := by rw [Int.tdiv_eq_ediv_of_nonneg (by omega)]; simp
  simp only [g112, G112]
  rw [g44_eq, hc, if_pos rfl, Option.bind_some]
  have z : ((0 : Int) != 0) = false := rfl
  rw [z, cond_false, d1, cond_false, guardT_pos hne, guardT_pos hne, e1, e2, wrap_nat (by omega), wrap_i64_succ (by omega)]
  have hn := nOf_div (L := L) h0
  have hle : L ≤ need * 1024 → nOf need L ≤ 1024 := nOf_le h0
  have hgt : ¬ L ≤ need * 1024 → 1024 < nOf need L := fun h => nOf_gt h0 (by omega)
  unfold lenR
  by_cases hm : L % need > 0
  · rw [if_pos hm] at hn
    have dm : decide (((L % need : Nat) : Int) > 0) = true := by simp; omega
    rw [dm, cond_true, ← hn]
    by_cases hl : L ≤ need * 1024
    · have := hle hl
      have dd : decide (((nOf need L : Nat) : Int) > 1024) = false := by simp; omega
      rw [dd, if_pos hl]; rfl
    · have := hgt hl
      have dd : decide (((nOf need L : Nat) : Int) > 1024) = true := by simp; omega
      rw [dd, if_neg hl]; rfl
  · rw [if_neg hm] at hn
    have dm : decide (((L % need : Nat) : Int) > 0) = false := by simp; omega
    rw [dm, cond_false, ← hn]
    by_cases hl : L ≤ need * 1024
    · have := hle hl
      have dd : decide (((nOf need L : Nat) : Int) > 1024) = false := by simp; omega
      rw [dd, if_pos hl]; rfl
    · have := hgt hl
      have dd : decide (((nOf need L : Nat) : Int) > 1024) = true := by simp; omega
      rw [dd, if_neg hl]; rfl
theorem g62_eq {need all L : Nat} (h0 : 1 ≤ need) (h : need ≤ all) (h16 : all ≤ 16) (hL : L < 2 ^ 40) : g62 (((need : Int), (all : Int)), (L : Int)) = some (lenR need L) := by
  have hc : codeOk (need : Int) (all : Int) = true := codeOk_iff.2 ⟨by omega, by omega, by omega⟩
  have d1 : decide ((L : Int) < 0) = false := by simp
  have hne : (need : Int) ≠ 0 := by omega
  have z : ((0 : Int) != 0) = false := rfl
  simp only [g62, G62]
  rw [g46_eq, hc, if_pos rfl, Option.bind_some]
  rw [z, cond_false, d1, cond_false, wrap_i64 (x := (need : Int) * 1024) (by omega) (by omega)]
  unfold lenR
  by_cases hl : L ≤ need * 1024
  · have dd : decide ((L : Int) > (need : Int) * 1024) = false := by simp; omega
    rw [dd, cond_false, guardT_pos hne, if_pos hl, wrap_i64 (x := (L : Int) + (need : Int)) (by omega) (by omega), wrap_i64 (x := (L : Int) + (need : Int) - 1) (by omega) (by omega)]
    have e2 : Int.tdiv ((L : Int) + (need : Int) - 1) (need : Int) = ((nOf need L : Nat) : Int) := by
      rw [show (L : Int) + (need : Int) - 1 = ((L + need - 1 : Nat) : Int) by omega, Int.tdiv_eq_ediv_of_nonneg (by omega)]
      simp [nOf]
    have := nOf_le h0 hl
    rw [e2, wrap_i64 (by omega) (by omega)]
  · have dd : decide ((L : Int) > (need : Int) * 1024) = true := by simp; omega
    rw [dd, cond_true, if_neg hl]

/-! ### The shards -/
def padB (need : Nat) (data : List UInt8) : List UInt8 := data ++ List.replicate (nOf need data.length * need - data.length) 0
def partsB (need : Nat) (data : List UInt8) (k : Nat) : List (List UInt8) := (List.range k).map fun i => ((padB need data).drop (i * nOf need data.length)).take (nOf need data.length)
def rowB (need all i : Nat) (cells : List Int) : List Int := (cells.drop (i * need)).take need
noncomputable def encTo (need all : Nat) (data : List UInt8) (k : Nat) : List (Int × List UInt8) := (List.range k).map fun (i : Nat) => ((i : Int), shardB (rowB need all i (rowsC need all)) (partsB need data need) (nOf need data.length))
noncomputable def encS (need all : Nat) (data : List UInt8) : List (Int × List UInt8) := encTo need all data all

theorem padB_length {need : Nat} {data : List UInt8} (h0 : 1 ≤ need) : (padB need data).length = nOf need data.length * need := by
  have := nOf_facts (L := data.length) h0
  simp only [padB, List.length_append, List.length_replicate]; omega
theorem rowOk {need all : Nat} {data : List UInt8} (h0 : 1 ≤ need) (h : need ≤ all) (h16 : all ≤ 16) (hL : data.length ≤ need * 1024) {i : Nat} (hi : i < all) :
    RowOk (rowB need all i (rowsC need all)) (partsB need data need) (nOf need data.length) := {
  small := fun x hx => rowsC_small h0 h h16 x (List.mem_of_mem_drop (List.mem_of_mem_take hx))
  len := by simp only [rowB, partsB, List.length_take, List.length_map, List.length_range]; omega
  each := fun d hd => by
    simp only [partsB, List.mem_map, List.mem_range] at hd
    obtain ⟨j, hj, rfl⟩ := hd
    have h2 : (j + 1) * nOf need data.length ≤ need * nOf need data.length := Nat.mul_le_mul_right _ hj
    rw [Nat.add_mul] at h2
    rw [List.length_take, List.length_drop, padB_length h0, Nat.mul_comm (nOf need data.length) need]; omega
  max := by have := nOf_le h0 hL; omega
  few := by simp only [rowB, List.length_take]; omega }
theorem sub_mul_succ (k n : Nat) : (k + 1) * n - k * n = n := by rw [Nat.add_mul]; omega
theorem repB_zero (k : Nat) : repB k [0] = List.replicate k 0 := by
  induction k with
  | zero => rfl
  | succ k ih => simp [repB, ih, List.replicate_succ]
theorem mul_le16 {a b : Nat} (ha : a ≤ 16) (hb : b ≤ 1024) : a * b ≤ 16384 := Nat.mul_le_mul ha hb

section
variable {need all : Nat} {data : List UInt8}
theorem g106_eq (h0 : 1 ≤ need) (h : need ≤ all) (h16 : all ≤ 16) (hL : data.length ≤ need * 1024) : g106 (((need : Int), (all : Int)), data) = some (encS need all data, 0) := by
  have hn := nOf_le h0 hL
  have hf := nOf_facts (L := data.length) h0
  have hsz := mul_le16 (a := need) (b := nOf need data.length) (by omega) hn
  have hcm := Nat.mul_comm (nOf need data.length) need
  simp only [g106, G106]
  rw [g112_eq h0 h h16 (by omega)]
  simp only [lenR, if_pos hL, Option.bind_some]
  have z : ((0 : Int) != 0) = false := rfl
  rw [z, cond_false, mul_cast, wrap_i64 (x := ((nOf need data.length * need : Nat) : Int)) (by omega) (by omega), show ((nOf need data.length * need : Nat) : Int) - (data.length : Int) = ((nOf need data.length * need - data.length : Nat) : Int) by omega, wrap_i64 (by omega) (by omega)]
  simp only [g166]
  rw [if_pos (by simp; omega), Int.toNat_natCast, repB_zero, Option.bind_some, guardT_pos (by simp; omega)]
  rw [show data ++ List.replicate (nOf need data.length * need - data.length) 0 = padB need data from rfl]
  have run1 := loopO_run (f := G106_1 g193 g194) (fun k => (partsB need data k, ((k : Int), ((need : Int), (((nOf need data.length : Nat) : Int), (padB need data, ((need : Int), (all : Int)))))))) need (by
    intro k hk
    have dk : decide ((k : Int) < (need : Int)) = true := by simp; exact hk
    have h2 : (k + 1) * nOf need data.length ≤ need * nOf need data.length := Nat.mul_le_mul_right _ hk
    have h3 : k * nOf need data.length ≤ (k + 1) * nOf need data.length := Nat.mul_le_mul_right _ (by omega)
    simp only [G106_1, dk, cond_true]
    rw [mul_cast, wrap_i64_succ (by omega), mul_cast, wrap_i64 (x := ((k * nOf need data.length : Nat) : Int)) (by omega) (by omega), wrap_i64 (x := (((k + 1) * nOf need data.length : Nat) : Int)) (by omega) (by omega)]
    rw [guardT_pos (by rw [padB_length h0]; omega), guardT_pos (by simp [partsB]; omega)]
    simp only [Int.toNat_natCast, sub_mul_succ]
    simp [partsB, List.range_succ])
  refine run1.trans ?_
  rw [loopO_eq]
  have dk : decide ((need : Int) < (need : Int)) = false := by simp
  simp only [G106_1, dk, cond_false, g193_eq h0 h h16, Option.bind_some]
  have run2 := loopO_for (f := G106_2 g194) (fun k => (encTo need all data k, (partsB need data need, ((k : Int), ((all : Int), (((nOf need data.length : Nat) : Int), ((all : Int), ((need : Int), (rowsC need all, ((need : Int), (all : Int)))))))))) ) all (r := (encS need all data, 0)) (by
    intro k hk
    have dk : decide ((k : Int) < (all : Int)) = true := by simp; exact hk
    have h2 : (k + 1) * need ≤ all * need := Nat.mul_le_mul_right _ hk
    have h3 : k * need ≤ (k + 1) * need := Nat.mul_le_mul_right _ (by omega)
    have h4 : all * need ≤ 256 := Nat.mul_le_mul h16 (show need ≤ 16 by omega)
    simp only [G106_2, dk, cond_true]
    rw [mul_cast, wrap_i64_succ (by omega), mul_cast, wrap_i64 (x := ((k * need : Nat) : Int)) (by omega) (by omega), wrap_i64 (x := (((k + 1) * need : Nat) : Int)) (by omega) (by omega)]
    rw [guardT_pos (by rw [rowsC_length h]; omega)]
    simp only [Int.toNat_natCast, sub_mul_succ]
    rw [show ((rowsC need all).drop (k * need)).take need = rowB need all k (rowsC need all) from rfl, g194_eq (rowOk h0 h h16 hL hk), Option.bind_some, guardT_pos (by simp [encTo]; omega)]
    simp [encTo, List.range_succ]) (by
    have dk : decide ((all : Int) < (all : Int)) = false := by simp
    simp only [G106_2, dk, cond_false]; rfl)
  rw [show ([] : List (Int × List UInt8)) = encTo need all data 0 from rfl]
  rw [show (0 : Int) = ((0 : Nat) : Int) from rfl] at run2 ⊢
  rw [run2]; rfl
theorem g106_big (h0 : 1 ≤ need) (h : need ≤ all) (h16 : all ≤ 16) (hL : need * 1024 < data.length) (hd : data.length < 2 ^ 40) : g106 (((need : Int), (all : Int)), data) = some ([], 4) := by
  simp only [g106, G106]
  rw [g112_eq h0 h h16 hd]
  simp only [lenR, if_neg (show ¬ data.length ≤ need * 1024 by omega), Option.bind_some]
  rfl
end
end Go.Abs

/- Stripes, texts that are cut, backups: both programs. -/
namespace Go.Abs
open Go Go.Proofs
set_option maxRecDepth 100000

abbrev Shard := Int × List UInt8
abbrev Stripe := (Int × Int) × (Int × List Int)
abbrev Place := Int × (Int × Int)
abbrev Backup := Int × (Int × (Int × (List Stripe × List Place)))

/-! ### Stripes -/
noncomputable def digs (l : List Shard) : List Int := l.map fun x => sumB x.2
noncomputable def stripeS (need all : Nat) (t : List UInt8) (k : Int) : Stripe := (((need : Int), (all : Int)), (((sealB t k).length : Int), digs (encS need all (sealB t k))))
noncomputable def makeS (need all : Nat) (t : List UInt8) (k : Int) : Stripe × (List Shard × Int) :=
  if keyOk k = false then (((0, 0), (0, [])), ([], 1))
  else if (sealB t k).length ≤ need * 1024 then (stripeS need all t k, (encS need all (sealB t k), 0))
  else (((0, 0), (0, [])), ([], 4))
theorem encS_length (need all : Nat) (d : List UInt8) : (encS need all d).length = all := by simp [encS, encTo]
theorem encS_len {need all : Nat} {d : List UInt8} (x : Shard) (hx : x ∈ encS need all d) : x.2.length = nOf need d.length := by
  simp only [encS, encTo, List.mem_map, List.mem_range] at hx
  obtain ⟨i, _, rfl⟩ := hx
  exact shardB_length _ _ _
theorem z00 : ((0 : Int) != 0) = false := rfl
theorem z10 : ((1 : Int) != 0) = true := rfl
theorem digs_loop {need all : Nat} {d : List UInt8} (h16 : all ≤ 16) (hL : d.length ≤ need * 1024) (h0 : 1 ≤ need) {r : Stripe × (List Shard × Int)} (a b c e f g : Int)
    (hr : r = (((a, b), (c, digs (encS need all d))), (encS need all d, 0))) :
    loopO (G45_1 g107) (([] : List Int), ((0 : Int), (((encS need all d).length : Int), (encS need all d, (encS need all d, (a, (b, (c, (e, (f, g)))))))))) = some r ∧
    loopO (G47_1 g63) (([] : List Int), ((0 : Int), (((encS need all d).length : Int), (encS need all d, (encS need all d, (a, (b, (c, (e, (f, g)))))))))) = some r := by
  have hn := nOf_le h0 hL
  generalize hl : encS need all d = l at *
  have hll : l.length = all := by rw [← hl]; exact encS_length _ _ _
  have hx : ∀ x ∈ l, x.2.length < 2 ^ 62 := by
    intro x hx; rw [← hl] at hx; rw [encS_len x hx]; omega
  constructor
  · have := loopO_for (f := G45_1 g107) (fun k => (digs (l.take k), ((k : Int), ((l.length : Int), (l, (l, (a, (b, (c, (e, (f, g))))))))))) l.length (r := r) (by
      intro k hk
      have dk : decide ((k : Int) < (l.length : Int)) = true := by simp; exact hk
      simp only [G45_1, dk, cond_true]
      rw [guardT_pos (by omega), getElem?_toNat hk, Option.bind_some, g107_eq (hx _ (List.getElem_mem hk)), Option.bind_some, guardT_pos (by simp [digs]; omega), wrap_i64_succ (by omega)]
      rw [List.take_succ_eq_append_getElem hk]
      simp only [digs, List.map_append, List.map_cons, List.map_nil]) (by
      have dk : decide ((l.length : Int) < (l.length : Int)) = false := by simp
      simp only [G45_1, dk, cond_false, List.take_length, hr])
    exact this
  · have := loopO_for (f := G47_1 g63) (fun k => (digs (l.take k), ((k : Int), ((l.length : Int), (l, (l, (a, (b, (c, (e, (f, g))))))))))) l.length (r := r) (by
      intro k hk
      have dk : decide ((k : Int) < (l.length : Int)) = true := by simp; exact hk
      simp only [G47_1, dk, cond_true]
      rw [guardT_pos (by omega), getElem?_toNat hk, Option.bind_some, g63_eq (hx _ (List.getElem_mem hk)), Option.bind_some, guardT_pos (by simp [digs]; omega), wrap_i64_succ (by omega)]
      rw [List.take_succ_eq_append_getElem hk]
      simp only [digs, List.map_append, List.map_cons, List.map_nil]) (by
      have dk : decide ((l.length : Int) < (l.length : Int)) = false := by simp
      simp only [G47_1, dk, cond_false, List.take_length, hr])
    exact this

theorem g45_eq {need all : Nat} (h0 : 1 ≤ need) (h : need ≤ all) (h16 : all ≤ 16) (t : List UInt8) (k : Int) (ht : t.length ≤ 1024) : g45 (((need : Int), (all : Int)), (t, k)) = some (makeS need all t k) := by
  have hc : codeOk (need : Int) (all : Int) = true := codeOk_iff.2 ⟨by omega, by omega, by omega⟩
  have hb := sealB_length t k
  simp only [g45, G45]
  rw [g44_eq, hc, if_pos rfl, Option.bind_some, z00, cond_false, g104_eq t k (by omega), Option.bind_some]
  unfold makeS
  cases hk : keyOk k with
  | false => simp only [Bool.false_eq_true, if_false, z10, cond_true, if_true]
  | true =>
    simp only [if_true, z00, cond_false, Bool.true_eq_false, if_false]
    rw [g105_eq t k (by omega) hk, Option.bind_some]
    simp only [z00, cond_false]
    by_cases hL : (sealB t k).length ≤ need * 1024
    · rw [g106_eq h0 h h16 hL, Option.bind_some, if_pos hL]
      simp only [z00, cond_false]
      exact (digs_loop h16 hL h0 _ _ _ _ _ _ rfl).1
    · rw [g106_big h0 h h16 (by omega) (by omega), Option.bind_some, if_neg hL]
      rfl
/-! ### Cut -/
def chunks (p : Nat) (t : List UInt8) (k : Nat) : List (List UInt8) := (List.range k).map fun i => (t.drop (i * p)).take p
def cutR (t : List UInt8) (p : Int) : List (List UInt8) × Int :=
  if p < 1 ∨ p > 1024 then ([], 1) else if (t.length : Int) > p * 16 then ([], 4) else (chunks p.toNat t (nOf p.toNat t.length), 0)
theorem chunks_succ (p : Nat) (t : List UInt8) (k : Nat) : chunks p t (k + 1) = chunks p t k ++ [(t.drop (k * p)).take p] := by simp [chunks, List.range_succ]
theorem chunks_length (p : Nat) (t : List UInt8) (k : Nat) : (chunks p t k).length = k := by simp [chunks]
theorem nOf_lt {p L k : Nat} (hp : 1 ≤ p) : k < nOf p L ↔ k * p < L := by
  have h := nOf_facts (L := L) hp
  constructor
  · intro hk
    have : (k + 1) * p ≤ nOf p L * p := Nat.mul_le_mul_right _ hk
    rw [Nat.add_mul] at this; omega
  · intro hk
    rcases Nat.lt_or_ge k (nOf p L) with h2 | h2
    · exact h2
    · have : nOf p L * p ≤ k * p := Nat.mul_le_mul_right _ h2
      omega
theorem nOf_le16 {p L : Nat} (hp : 1 ≤ p) (h : L ≤ p * 16) : nOf p L ≤ 16 := by
  rcases Nat.lt_or_ge 16 (nOf p L) with h2 | h2
  · have := (nOf_lt (k := 16) hp).1 h2; omega
  · exact h2

theorem g14_eq (t : List UInt8) (p : Int) (ht : t.length ≤ 2 ^ 30) : g14 (t, p) = some (cutR t p) := by
  simp only [g14, G14]
  unfold cutR
  by_cases h1 : p < 1
  · have d1 : decide (p < 1) = true := by simp [h1]
    rw [d1, if_pos (.inl h1)]; rfl
  have d1 : decide (p < 1) = false := by simp; omega
  by_cases h2 : p > 1024
  · have d2 : decide (p > 1024) = true := by simp; omega
    rw [d1, d2, if_pos (.inr h2)]; rfl
  have d2 : decide (p > 1024) = false := by simp; omega
  rw [d1, d2, if_neg (by omega)]
  simp only [cond_false, Option.bind_some]
  rw [wrap_i64 (x := p * 16) (by omega) (by omega)]
  by_cases h3 : (t.length : Int) > p * 16
  · have d3 : decide ((t.length : Int) > p * 16) = true := by simp; omega
    rw [d3, if_pos h3]; rfl
  have d3 : decide ((t.length : Int) > p * 16) = false := by simp; omega
  rw [d3, if_neg h3, cond_false]
  obtain ⟨q, rfl⟩ : ∃ q : Nat, p = q := ⟨p.toNat, by omega⟩
  rw [Int.toNat_natCast]
  have hq : 1 ≤ q := by omega
  have h16 := nOf_le16 (L := t.length) hq (by omega)
  have := loopO_for (f := G14_1) (fun k => (chunks q t k, ((q : Int), t.drop (k * q)))) (nOf q t.length) (r := (chunks q t (nOf q t.length), 0)) (by
    intro k hk
    have hlt := (nOf_lt hq).1 hk
    have hl : (t.drop (k * q)).length = t.length - k * q := by simp
    have dk : decide (((t.drop (k * q)).length : Int) > 0) = true := by rw [hl]; simp; omega
    simp only [G14_1, dk, cond_true]
    have hm : ∃ m : Nat, (if ((t.drop (k * q)).length : Int) < (q : Int) then ((t.drop (k * q)).length : Int) else (q : Int)) = (m : Int) ∧ m ≤ (t.drop (k * q)).length ∧ m ≤ q ∧ (m < q → m = (t.drop (k * q)).length) := by
      by_cases h : (t.drop (k * q)).length < q
      · exact ⟨(t.drop (k * q)).length, by rw [if_pos (by omega)], by omega, by omega, fun _ => rfl⟩
      · exact ⟨q, by rw [if_neg (by omega)], by omega, by omega, fun h => by omega⟩
    obtain ⟨m, e, m1, m2, m3⟩ := hm
    rw [e, guardT_pos (by omega), guardT_pos (by rw [chunks_length]; simp; omega), guardT_pos (by omega), Int.toNat_natCast, chunks_succ]
    have t1 : (t.drop (k * q)).take m = (t.drop (k * q)).take q := by
      rcases Nat.lt_or_ge m q with h | h
      · rw [m3 h, List.take_length, List.take_of_length_le (by omega)]
      · rw [show m = q by omega]
    have t2 : (t.drop (k * q)).drop m = t.drop ((k + 1) * q) := by
      rw [List.drop_drop, Nat.add_mul]
      rcases Nat.lt_or_ge m q with h | h
      · have := m3 h
        rw [List.drop_of_length_le (by omega), List.drop_of_length_le (by omega)]
      · rw [show m = q by omega]; congr 1; omega
    rw [t1, t2]) (by
    have hge : ¬ (nOf q t.length * q < t.length) := fun h => by have := (nOf_lt hq).2 h; omega
    have dk : decide (((t.drop (nOf q t.length * q)).length : Int) > 0) = false := by simp; omega
    simp only [G14_1, dk, cond_false])
  simpa [chunks] using this
theorem cutR_facts {t : List UInt8} {p : Int} (h : (cutR t p).2 = 0) : (cutR t p).1.length ≤ 16 ∧ ∀ x ∈ (cutR t p).1, x.length ≤ 1024 := by
  unfold cutR at h ⊢
  split at h
  · cases h
  split at h
  · cases h
  rename_i h1 h2
  rw [if_neg h1, if_neg h2]
  refine ⟨by rw [chunks_length]; exact nOf_le16 (by omega) (by omega), fun x hx => ?_⟩
  simp only [chunks, List.mem_map] at hx
  obtain ⟨i, _, rfl⟩ := hx
  rw [List.length_take]; omega

/-! ### Make -/
noncomputable def makeL (need all : Nat) (key : Int) : List (List UInt8) → List Stripe → List (List Shard) → List Stripe × (List (List Shard) × Int)
  | [], a, b => (a, (b, 0))
  | x :: l, a, b => if (makeS need all x key).2.2 ≠ 0 then ([], ([], (makeS need all x key).2.2)) else makeL need all key l (a ++ [(makeS need all x key).1]) (b ++ [(makeS need all x key).2.1])
def zeroB : Backup := (0, (0, (0, ([], []))))
noncomputable def endM (owner number size : Int) (r : List Stripe × (List (List Shard) × Int)) : Backup × (List (List Shard) × Int) :=
  if r.2.2 ≠ 0 then (zeroB, ([], r.2.2)) else ((owner, (number, (size, (r.1, [])))), (r.2.1, 0))

theorem loop17 {need all : Nat} (h0 : 1 ≤ need) (h : need ≤ all) (h16 : all ≤ 16) (key owner number size : Int) (parts : List (List UInt8)) (hp : ∀ x ∈ parts, x.length ≤ 1024) (hpl : parts.length ≤ 16) (u v w : Int) :
    ∀ (n k : Nat) (a : List Stripe) (b : List (List Shard)), k + n = parts.length → a.length ≤ k → b.length ≤ k →
      loopO (G17_1 g45) (b, (a, ((k : Int), ((parts.length : Int), (parts, (key, (owner, (number, (size, (u, (v, (w, ((need : Int), (all : Int)))))))))))))) = some (endM owner number size (makeL need all key (parts.drop k) a b))
  | 0, k, a, b, hk, ha, hb => by
    have dk : decide ((k : Int) < (parts.length : Int)) = false := by simp; omega
    rw [loopO_eq]
    simp only [G17_1, dk, cond_false]
    rw [List.drop_of_length_le (by omega), makeL, endM, if_neg (by simp)]
  | n + 1, k, a, b, hk, ha, hb => by
    have hlt : k < parts.length := by omega
    have dk : decide ((k : Int) < (parts.length : Int)) = true := by simp; omega
    rw [loopO_eq]
    simp only [G17_1, dk, cond_true]
    rw [guardT_pos (by omega), getElem?_toNat hlt, Option.bind_some, g45_eq h0 h h16 _ _ (hp _ (List.getElem_mem hlt)), Option.bind_some, List.drop_eq_getElem_cons hlt, makeL]
    generalize hr : makeS need all parts[k] key = r
    by_cases he : r.2.2 = 0
    · have z : (r.2.2 != 0) = false := by simp [he]
      rw [z, cond_false, guardT_pos (by simp; omega), guardT_pos (by simp; omega), wrap_i64_succ (by omega), if_neg (by simpa using he)]
      simp only
      exact loop17 h0 h h16 key owner number size parts hp hpl u v w n (k + 1) _ _ (by omega) (by simp; omega) (by simp; omega)
    · have z : (r.2.2 != 0) = true := by simp [he]
      rw [z, cond_true, if_pos he]
      simp only [endM]
      rw [if_pos he]; rfl
def personOk (n : Int) : Bool := decide (1 ≤ n) && decide (n ≤ 16)
theorem g43_eq (n : Int) : g43 n = some (personOk n) := by
  simp only [g43, G43, personOk, ge_iff_le]
  cases decide (1 ≤ n) <;> simp
def headOk (owner number : Int) : Bool := personOk owner && (decide (1 ≤ number) && decide (number ≤ 1048576))
noncomputable def makeB (owner number : Int) (t : List UInt8) (a b key part : Int) : Backup × (List (List Shard) × Int) :=
  if headOk owner number = false then (zeroB, ([], 1))
  else if codeOk a b = false then (zeroB, ([], 1))
  else if (cutR t part).2 ≠ 0 then (zeroB, ([], (cutR t part).2))
  else endM owner number t.length (makeL a.toNat b.toNat key (cutR t part).1 [] [])
theorem head17 {α : Type} (owner number : Int) (z : α) : ((some (personOk owner)).bind (fun (x1 : Bool) => (bif (!x1) then (some (Bool.true, z)) else (bif (decide (number < (1 : Int))) then (some (Bool.true, z)) else (some ((decide (number > (1048576 : Int))), z)))))) = some (!headOk owner number, z) := by
  unfold headOk
  cases personOk owner with
  | false => rfl
  | true =>
    by_cases h1 : number < 1
    · have : decide (1 ≤ number) = false := by simp; omega
      simp [h1, this]
    · have : decide (1 ≤ number) = true := by simp; omega
      by_cases h2 : number > 1048576
      · simp [h1, h2, this]
      · simp [h1, h2, this]; omega
theorem g17_eq (owner number : Int) (t : List UInt8) (a b key part : Int) (ht : t.length ≤ 2 ^ 30) : g17 (owner, (number, (t, ((a, b), (key, part))))) = some (makeB owner number t a b key part) := by
  simp only [g17, G17]
  rw [g43_eq, head17, Option.bind_some]
  unfold makeB
  cases headOk owner number with
  | false => rfl
  | true =>
    simp only [Bool.not_true, cond_false, Bool.true_eq_false, if_false]
    rw [g44_eq, Option.bind_some]
    cases hc : codeOk a b with
    | false => rfl
    | true =>
      simp only [if_true, z00, cond_false, Bool.true_eq_false, if_false]
      rw [g14_eq t part ht, Option.bind_some]
      by_cases he : (cutR t part).2 = 0
      · obtain ⟨f1, f2⟩ := cutR_facts he
        have z : ((cutR t part).2 != 0) = false := by simp [he]
        rw [z, cond_false, if_neg (by simpa using he)]
        obtain ⟨c1, c2, c3⟩ := codeOk_iff.1 hc
        obtain ⟨x, rfl⟩ : ∃ x : Nat, a = x := ⟨a.toNat, by omega⟩
        obtain ⟨y, rfl⟩ : ∃ y : Nat, b = y := ⟨b.toNat, by omega⟩
        exact loop17 (by omega) (by omega) (by omega) key owner number t.length (cutR t part).1 f2 f1 0 0 0 (cutR t part).1.length 0 [] [] (by omega) (by simp) (by simp)
      · have z : ((cutR t part).2 != 0) = true := by simp [he]
        rw [z, cond_true, if_pos (by simpa using he)]; rfl
end Go.Abs
