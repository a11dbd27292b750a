import Derived.Test.YtghdinkgfpfdoaaGreatPc
import Derived.Test.YtghdinkgfpfdoaaGreatFd
/- Finding in lists; places. -/
namespace Go.Abs
open Go Go.Proofs
set_option maxRecDepth 100000

section
variable {S R α : Type}
/-- The first one. -/
theorem loopO_find {f : S → Option (S ⊕ R)} {l : List α} (st : Nat → S) (q : α → Bool) (hit : Nat → R) (no : R)
    (h : ∀ k (hk : k < l.length), f (st k) = if q l[k] = true then some (.inr (hit k)) else some (.inl (st (k + 1)))) (he : f (st l.length) = some (.inr no)) :
    loopO f (st 0) = some (match l.findIdx? q with | some k => hit k | none => no) := by
  suffices ∀ m k, k + m = l.length → loopO f (st k) = some (match (l.drop k).findIdx? q with | some j => hit (k + j) | none => no) by
    have := this l.length 0 (by omega)
    simpa using this
  intro m
  induction m with
  | zero =>
    intro k hk
    have : k = l.length := by omega
    subst this
    rw [loopO_end he, List.drop_length]; rfl
  | succ m ih =>
    intro k hk
    have hlt : k < l.length := by omega
    rw [loopO_eq, h k hlt, List.drop_eq_getElem_cons hlt, List.findIdx?_cons]
    by_cases hq : q l[k] = true
    · rw [if_pos hq]
      simp only [hq, cond_true, if_true]; rfl
    · rw [if_neg hq]
      simp only [show q l[k] = false by simpa using hq, Bool.false_eq_true, if_false]
      rw [ih (k + 1) (by omega)]
      cases (l.drop (k + 1)).findIdx? q with
      | none => rfl
      | some j => simp only [Option.map_some]; congr 2; omega
/-- All of them. -/
theorem loopO_all {f : S → Option (S ⊕ Bool)} (st : Nat → S) (ok : Nat → Bool) (n : Nat)
    (h : ∀ k, k < n → f (st k) = if ok k = true then some (.inl (st (k + 1))) else some (.inr false)) (he : f (st n) = some (.inr true)) :
    loopO f (st 0) = some ((List.range n).all ok) := by
  suffices ∀ m k, k + m = n → loopO f (st k) = some ((List.range' k m).all ok) by
    have := this n 0 (by omega)
    rwa [← List.range_eq_range'] at this
  intro m
  induction m with
  | zero =>
    intro k hk
    have : k = n := by omega
    subst this
    rw [loopO_end he]; rfl
  | succ m ih =>
    intro k hk
    rw [loopO_eq, h k (by omega), List.range'_succ, List.all_cons]
    by_cases hq : ok k = true
    · rw [if_pos hq, hq, Bool.true_and]; exact ih (k + 1) (by omega)
    · rw [if_neg hq, show ok k = false by simpa using hq]; rfl
end

def idxI (o : Option Nat) : Int := match o with
  | some k => (k : Int)
  | none => -1
theorem idx_ge {α : Type} (l : List α) (q : α → Bool) : decide (idxI (l.findIdx? q) ≥ 0) = l.any q := by
  rw [← List.findIdx?_isSome]
  cases l.findIdx? q with
  | none => rfl
  | some k => simp [idxI]

/-! ### Spread's questions -/
def strangeB (owner p : Int) : Bool := !personOk p || p == owner
theorem g54_eq (p : Int) (b : Backup) : g54 (p, b) = some (strangeB b.1 p) := by
  simp only [g54, G54]
  rw [g43_eq, Option.bind_some]
  unfold strangeB
  cases personOk p <;> rfl
theorem g57p_eq (l : List Int) (b : Backup) (hl : l.length < 2 ^ 60) : g57p (l, b) = some (l.any (strangeB b.1)) := by
  have : g120p (l, b) = some (idxI (l.findIdx? (strangeB b.1))) :=
    loopO_find (f := G120p_1 g54) (l := l) (fun k => ((k : Int), ((l.length : Int), (b, l)))) (strangeB b.1) (fun k => (k : Int)) (-1) (by
      intro k hk
      have dk : decide ((k : Int) < (l.length : Int)) = true := by simp; exact hk
      simp only [G120p_1, dk, cond_true]
      rw [guardT_pos (by omega), getElem?_toNat hk, Option.bind_some, g54_eq, Option.bind_some, wrap_i64_succ (by omega)]
      cases strangeB b.1 l[k] <;> rfl) (by
      have dk : decide ((l.length : Int) < (l.length : Int)) = false := by simp
      simp only [G120p_1, dk, cond_false]; try rfl)
  simp only [g57p, G57p]
  rw [this, Option.bind_some, idx_ge]
def fewB (n : Nat) (s : Stripe) : Bool := decide ((n : Int) < s.1.2)
theorem g59_eq (ss : List Stripe) (l : List Int) (hl : ss.length < 2 ^ 60) : g59 (ss, l) = some (ss.any (fewB l.length)) := by
  have : g124 (ss, l) = some (idxI (ss.findIdx? (fewB l.length))) :=
    loopO_find (f := G124_1 g55) (l := ss) (fun k => ((k : Int), ((ss.length : Int), (l, ss)))) (fewB l.length) (fun k => (k : Int)) (-1) (by
      intro k hk
      have dk : decide ((k : Int) < (ss.length : Int)) = true := by simp; exact hk
      simp only [G124_1, dk, cond_true]
      rw [guardT_pos (by omega), getElem?_toNat hk, Option.bind_some, show g55 (((ss[k].1.1, ss[k].1.2), (ss[k].2.1, ss[k].2.2)), l) = some (fewB l.length ss[k]) from rfl, Option.bind_some, wrap_i64_succ (by omega)]
      cases fewB l.length ss[k] <;> rfl) (by
      have dk : decide ((ss.length : Int) < (ss.length : Int)) = false := by simp
      simp only [G124_1, dk, cond_false]; try rfl)
  simp only [g59, G59]
  rw [this, Option.bind_some, idx_ge]

/-! ### Own -/
theorem set_self {α : Type} (l : List α) (k : Nat) (h : k < l.length) : l.set k l[k] = l := by simp
theorem g56_eq (b : Backup) (h1 : b.2.2.2.1.length ≤ 2 ^ 32) (h2 : b.2.2.2.2.length ≤ 2 ^ 32) (h3 : ∀ s ∈ b.2.2.2.1, s.2.2.length ≤ 2 ^ 32) : g56 b = some b := by
  obtain ⟨o, n, z, ss, ps⟩ := b
  simp only at h1 h2 h3
  simp only [g56, G56]
  rw [show g65p ps = some ps by simp only [g65p, cloneT, if_pos h2], Option.bind_some, show g118g ss = some ss by simp only [g118g, cloneT, if_pos h1], Option.bind_some]
  refine loopO_for (f := G56_1 g119p) (fun k => (ss, ((k : Int), ((ss.length : Int), ((0 : Int), ((0 : Int), ((0 : Int), (o, (n, (z, ps)))))))))) ss.length ?_ ?_
  · intro k hk
    have dk : decide ((k : Int) < (ss.length : Int)) = true := by simp; exact hk
    simp only [G56_1, dk, cond_true]
    rw [guardT_pos (by omega), getElem?_toNat hk, Option.bind_some, show g119p ss[k].2.2 = some ss[k].2.2 by simp only [g119p, cloneT, if_pos (h3 _ (List.getElem_mem hk))], Option.bind_some, guardT_pos (by omega), Option.bind_some, wrap_i64_succ (by omega), Int.toNat_natCast]
    rw [set_self]
  · have dk : decide ((ss.length : Int) < (ss.length : Int)) = false := by simp
    simp only [G56_1, dk, cond_false]; try rfl

/-! ### Valid places -/
def ltP (p q : Place) : Bool := decide (p.1 < q.1) || (p.1 == q.1 && decide (p.2.1 < q.2.1))
def cmpI (a b : Int) : Int := if a < b then -1 else if a > b then 1 else 0
theorem g115_eq (a b : Int) : g115 (a, b) = some (cmpI a b) := by
  simp only [g115, G115]
  rw [show g201 a = some (a != a) from rfl, show g201 b = some (b != b) from rfl, bne_refl, bne_refl, Option.bind_some, Option.bind_some, cond_false, cond_false]
  unfold cmpI
  by_cases h : a < b
  · simp [h]
  · by_cases k : a > b
    · simp [h, k]
    · simp [h, k]
theorem g114_eq (a b : Int) : g114 [a, b] = some (if a ≠ 0 then a else b) := by
  by_cases h : a = 0
  · subst h
    by_cases k : b = 0
    · subst k
      exact loopO_iter 3 rfl
    · have hk : (b != 0) = true := by simp [k]
      refine loopO_iter 2 ?_
      simp only [iterO]
      rw [show G114_1 ((0 : Int), ((([0, b] : List Int).length : Int), ([0, b], (0 : Int)))) = some (.inl (1, (2, ([0, b], 0)))) from rfl]
      simp only
      have : G114_1 ((1 : Int), ((2 : Int), ([0, b], (0 : Int)))) = some (.inr b) := by
        show (guardT ((0 : Int) ≤ 1) ((some b).bind fun x2 => bif (x2 != (0 : Int)) then (some (Sum.inr x2)) else (some (Sum.inl _)))) = _
        rw [guardT_pos (by omega), Option.bind_some, hk, cond_true]
      rw [this]; rfl
  · have hk : (a != 0) = true := by simp [h]
    refine loopO_iter 1 ?_
    simp only [iterO]
    have : G114_1 ((0 : Int), ((([a, b] : List Int).length : Int), ([a, b], (0 : Int)))) = some (.inr a) := by
      show (guardT ((0 : Int) ≤ 0) ((some a).bind fun x2 => bif (x2 != (0 : Int)) then (some (Sum.inr x2)) else (some (Sum.inl _)))) = _
      rw [guardT_pos (by omega), Option.bind_some, hk, cond_true]
    rw [this, if_pos h]
theorem g51_eq (p q : Place) : ∃ c, g51 (p, q) = some c ∧ decide (c ≥ 0) = !ltP p q := by
  refine ⟨_, by simp only [g51, G51]; rw [g115_eq, Option.bind_some, g115_eq, Option.bind_some, g114_eq, Option.bind_some], ?_⟩
  unfold cmpI ltP
  by_cases h1 : p.1 < q.1
  · simp [h1]
  · by_cases h2 : p.1 > q.1
    · have : ¬ p.1 = q.1 := by omega
      simp [h1, h2, this]
    · have : p.1 = q.1 := by omega
      by_cases h3 : p.2.1 < q.2.1
      · simp [this, h3]
      · by_cases h4 : p.2.1 > q.2.1 <;> simp [this, h3, h4]
def hasB (ss : List Stripe) (s i : Int) : Bool := decide (0 ≤ s) && decide (s < ss.length) && decide (0 ≤ i) && decide (i < (ss.getD s.toNat ((0, 0), (0, []))).1.2)
theorem g52_eq (b : Backup) (s i : Int) : g52 (b, (s, i)) = some (hasB b.2.2.2.1 s i) := by
  simp only [g52, G52, ge_iff_le]
  unfold hasB
  by_cases h1 : 0 ≤ s
  · by_cases h2 : s < b.2.2.2.1.length
    · by_cases h3 : 0 ≤ i
      · have hk : s.toNat < b.2.2.2.1.length := by omega
        simp [h1, h2, h3, guardT_pos, List.getD_eq_getElem?_getD, hk]
      · simp [h1, h2, h3]
    · simp [h1, h2]
  · simp [h1]
def clashB (l : List Place) (p : Place) : Bool := l.any fun x => x.1 == p.1 && x.2.2 == p.2.2
theorem g53_eq (l : List Place) (p : Place) (hl : l.length < 2 ^ 60) : g53 (l, p) = some (clashB l p) := by
  have : g125c (l, p) = some (idxI (l.findIdx? fun x => x.1 == p.1 && x.2.2 == p.2.2)) :=
    loopO_find (f := G125c_1 g117) (l := l) (fun k => ((k : Int), ((l.length : Int), (p, l)))) (fun x => x.1 == p.1 && x.2.2 == p.2.2) (fun k => (k : Int)) (-1) (by
      intro k hk
      have dk : decide ((k : Int) < (l.length : Int)) = true := by simp; exact hk
      have e : g117 ((l[k].1, (l[k].2.1, l[k].2.2)), p) = some (l[k].1 == p.1 && l[k].2.2 == p.2.2) := by
        simp only [g117, G117]
        cases l[k].1 == p.1 <;> rfl
      simp only [G125c_1, dk, cond_true]
      rw [guardT_pos (by omega), getElem?_toNat hk, Option.bind_some, e, Option.bind_some, wrap_i64_succ (by omega)]
      cases (l[k].1 == p.1 && l[k].2.2 == p.2.2) <;> rfl) (by
      have dk : decide ((l.length : Int) < (l.length : Int)) = false := by simp
      simp only [G125c_1, dk, cond_false]; try rfl)
  have e2 : g116 (l, p) = some (clashB l p) := by
    simp only [g116, G116]
    rw [this, Option.bind_some, idx_ge]; rfl
  simp only [g53, G53]
  rw [e2]; rfl
end Go.Abs

/- Which backups with places are valid; spreading. -/
namespace Go.Abs
open Go Go.Proofs
set_option maxRecDepth 100000

def zP : Place := (0, (0, 0))
def placeOkB (owner : Int) (ss : List Stripe) (ps : List Place) (k : Nat) : Bool :=
  (k == 0 || ltP (ps.getD (k - 1) zP) (ps.getD k zP)) && (hasB ss (ps.getD k zP).1 (ps.getD k zP).2.1 && (personOk (ps.getD k zP).2.2 && (!((ps.getD k zP).2.2 == owner) && !clashB (ps.take k) (ps.getD k zP))))
def placesOkB (owner : Int) (ss : List Stripe) (ps : List Place) : Bool := (List.range ps.length).all (placeOkB owner ss ps)

structure Whole (b : Backup) : Prop where
  head : headOk b.1 b.2.1 = true
  size : ∃ n : Nat, b.2.2.1 = (n : Int)
  few : b.2.2.2.1.length ≤ 16
  each : ∀ s ∈ b.2.2.2.1, StripeOk s
  places : b.2.2.2.2.length < 2 ^ 60
theorem getD_of {α : Type} {l : List α} {k : Nat} (h : k < l.length) (z : α) : l.getD k z = l[k] := by simp [List.getD_eq_getElem?_getD, h]

theorem places_step (owner number size : Int) (ss : List Stripe) (ps : List Place) (hp : ps.length < 2 ^ 60) (k : Nat) (hk : k < ps.length) :
    G21_2 g43 g51 g52 g53 ((k : Int), ((ps.length : Int), (ps, (owner, (number, (size, (ss, ps))))))) =
      if placeOkB owner ss ps k = true then some (.inl (((k + 1 : Nat) : Int), ((ps.length : Int), (ps, (owner, (number, (size, (ss, ps)))))))) else some (.inr false) := by
  have dk : decide ((k : Int) < (ps.length : Int)) = true := by simp; exact hk
  have tail : ∀ {α : Type} (z : α), ((g52 ((owner, (number, (size, (ss, ps)))), (ps[k].1, ps[k].2.1))).bind fun x13 : Bool => (bif (!x13) then some (Bool.true, z) else ((g43 ps[k].2.2).bind fun x14 : Bool => (bif (!x14) then some (Bool.true, z) else (bif (ps[k].2.2 == owner) then some (Bool.true, z) else (guardT (((0 : Int) ≤ (k : Int)) ∧ ((k : Int) ≤ (ps.length : Int))) ((g53 (List.take (Int.toNat (k : Int)) ps, (ps[k].1, (ps[k].2.1, ps[k].2.2)))).bind fun x15 : Bool => some (x15, z)))))))) =
      some (!(hasB ss ps[k].1 ps[k].2.1 && (personOk ps[k].2.2 && (!(ps[k].2.2 == owner) && !clashB (ps.take k) ps[k]))), z) := by
    intro α z
    rw [g52_eq, Option.bind_some, g43_eq, Option.bind_some, guardT_pos (by omega), Int.toNat_natCast, g53_eq _ _ (by rw [List.length_take]; omega), Option.bind_some]
    simp only
    cases hasB ss ps[k].1 ps[k].2.1 with
    | false => rfl
    | true =>
      cases personOk ps[k].2.2 with
      | false => rfl
      | true =>
        cases ps[k].2.2 == owner with
        | true => rfl
        | false => simp only [Bool.not_true, cond_false, Bool.not_false, Bool.true_and, Bool.not_not]
  simp only [G21_2, dk, cond_true]
  rw [guardT_pos (by omega), getElem?_toNat hk, Option.bind_some]
  unfold placeOkB
  rw [getD_of hk]
  cases k with
  | zero =>
    have d0 : decide (((0 : Nat) : Int) > 0) = false := by decide
    rw [d0, cond_false, tail, Option.bind_some]
    simp only [beq_self_eq_true, Bool.true_or, Bool.true_and]
    rw [wrap_i64_succ (by omega)]
    cases (hasB ss ps[0].1 ps[0].2.1 && (personOk ps[0].2.2 && (!(ps[0].2.2 == owner) && !clashB (ps.take 0) ps[0]))) <;> rfl
  | succ k =>
    have d0 : decide (((k + 1 : Nat) : Int) > 0) = true := by simp only [decide_eq_true_eq]; omega
    have hk' : k < ps.length := by omega
    obtain ⟨c, c1, c2⟩ := g51_eq ps[k] ps[k + 1]
    rw [d0, cond_true, show (((k + 1 : Nat) : Int) - 1) = (k : Int) by omega, wrap_nat (by omega), guardT_pos (by omega), getElem?_toNat hk', Option.bind_some]
    rw [show ((ps[k].1, (ps[k].2.1, ps[k].2.2)), (ps[k + 1].1, (ps[k + 1].2.1, ps[k + 1].2.2))) = (ps[k], ps[k + 1]) from rfl, c1, Option.bind_some, c2, tail]
    have e0 : ((k + 1 == 0) : Bool) = false := rfl
    rw [e0, Bool.false_or, show k + 1 - 1 = k from rfl, getD_of hk']
    have hw : IntKind.wrap IntKind.i64 (((k + 1 : Nat) : Int) + 1) = ((k + 1 + 1 : Nat) : Int) := wrap_i64_succ (by omega)
    cases ltP ps[k] ps[k + 1] with
    | false => rfl
    | true =>
      simp only [Bool.not_true, cond_false, Option.bind_some, Bool.true_and]
      rw [hw]
      cases (hasB ss ps[k + 1].1 ps[k + 1].2.1 && (personOk ps[k + 1].2.2 && (!(ps[k + 1].2.2 == owner) && !clashB (ps.take (k + 1)) ps[k + 1]))) <;> rfl

theorem g21_eq {b : Backup} (h : Whole b) : g21 b = some (placesOkB b.1 b.2.2.2.1 b.2.2.2.2) := by
  obtain ⟨owner, number, size, ss, ps⟩ := b
  obtain ⟨hh, ⟨n, hn⟩, hf, he, hb⟩ := h
  simp only at hh hn hf he hb
  subst hn
  simp only [headOk, Bool.and_eq_true, decide_eq_true_eq] at hh
  have d1 : decide (number < 1) = false := by simp; omega
  have d2 : decide (number > 1048576) = false := by simp; omega
  have d3 : decide ((n : Int) < 0) = false := by simp
  have d4 : decide ((ss.length : Int) > 16) = false := by simp; omega
  simp only [g21, G21]
  rw [g43_eq, hh.1, Option.bind_some]
  simp only [Bool.not_true, cond_false, d1, d2, d3, d4, Option.bind_some]
  have inner := loopO_all (f := G21_2 g43 g51 g52 g53) (fun k => ((k : Int), ((ps.length : Int), (ps, (owner, (number, ((n : Int), (ss, ps)))))))) (placeOkB owner ss ps) ps.length (fun k hk => places_step owner number n ss ps hb k hk) (by
    have dk : decide ((ps.length : Int) < (ps.length : Int)) = false := by simp
    simp only [G21_2, dk, cond_false]; try rfl)
  have := loopO_for (f := G21_1 g43 g50 g51 g52 g53) (fun k => ((k : Int), ((ss.length : Int), (ss, (owner, (number, ((n : Int), (ss, ps)))))))) ss.length (r := placesOkB owner ss ps) (by
    intro k hk
    have dk : decide ((k : Int) < (ss.length : Int)) = true := by simp; exact hk
    simp only [G21_1, dk, cond_true]
    rw [guardT_pos (by omega), getElem?_toNat hk, Option.bind_some, (he _ (List.getElem_mem hk)).check, Option.bind_some, z00, cond_false, wrap_i64_succ (by omega)]) (by
    have dk : decide ((ss.length : Int) < (ss.length : Int)) = false := by simp
    simp only [G21_1, dk, cond_false]
    rw [show loopO (G21_2 g43 g51 g52 g53) ((0 : Int), ((ps.length : Int), (ps, (owner, (number, ((n : Int), (ss, ps))))))) = some (placesOkB owner ss ps) from inner, Option.bind_some])
  exact this
end Go.Abs

/- Spreading. -/
namespace Go.Abs
open Go Go.Proofs
set_option maxRecDepth 100000

def spreadP (ps : List Int) (all k : Nat) : Place := (((k / all : Nat) : Int), (((k % all : Nat) : Int), ps.getD ((k / all + k % all) % ps.length) 0))
def spreadL (ps : List Int) (all m : Nat) : List Place := (List.range m).map (spreadP ps all)
theorem spreadL_length (ps : List Int) (all m : Nat) : (spreadL ps all m).length = m := by simp [spreadL]
theorem spreadL_succ (ps : List Int) (all m : Nat) : spreadL ps all (m + 1) = spreadL ps all m ++ [spreadP ps all m] := by simp [spreadL, List.range_succ]
theorem div_at {s all i : Nat} (h : i < all) : (s * all + i) / all = s := by
  rw [Nat.mul_comm, Nat.mul_add_div (by omega), Nat.div_eq_of_lt h, Nat.add_zero]
theorem mod_at {s all i : Nat} (h : i < all) : (s * all + i) % all = i := by
  rw [Nat.mul_comm, Nat.mul_add_mod, Nat.mod_eq_of_lt h]

theorem spread_row {ps : List Int} {all s : Nat} (hps : 1 ≤ ps.length) (hpl : ps.length < 100) (hall : all < 100) (hs : s < 100) (n : Int) (ss : List Stripe) (R : Int × (Int × (Int × (List Stripe × (Int × (Int × (Int × List Int))))))) (hR : R.2.2.2.2.2.2.2 = ps) :
    loopO G22_2 (spreadL ps all (s * all), ((0 : Int), ((all : Int), ((s : Int), (n, (ss, ((s : Int), R))))))) =
      some (.inl (spreadL ps all ((s + 1) * all), (((s + 1 : Nat) : Int), (n, (ss, R))))) := by
  obtain ⟨a1, a2, a3, a4, a5, a6, a7, a8⟩ := R
  simp only at hR
  subst hR
  have hlen : s * all ≤ 100 * 100 := Nat.mul_le_mul (by omega) (by omega)
  have := loopO_for (f := G22_2) (fun i => (spreadL a8 all (s * all + i), ((i : Int), ((all : Int), ((s : Int), (n, (ss, ((s : Int), (a1, (a2, (a3, (a4, (a5, (a6, (a7, a8)))))))))))))) ) all
    (r := .inl (spreadL a8 all ((s + 1) * all), (((s + 1 : Nat) : Int), (n, (ss, (a1, (a2, (a3, (a4, (a5, (a6, (a7, a8)))))))))))) (by
    intro i hi
    have di : decide ((i : Int) < (all : Int)) = true := by simp only [decide_eq_true_eq]; omega
    have hm : (s + i) % a8.length < a8.length := Nat.mod_lt _ (by omega)
    have ht : Int.tmod (IntKind.wrap IntKind.i64 ((s : Int) + (i : Int))) (a8.length : Int) = (((s + i) % a8.length : Nat) : Int) := by
      rw [show (s : Int) + (i : Int) = ((s + i : Nat) : Int) by omega, wrap_nat (by omega)]; rfl
    simp only [G22_2, di, cond_true]
    rw [ht, guardT_pos (by omega), guardT_pos (by omega), getElem?_toNat hm, Option.bind_some, guardT_pos (by rw [spreadL_length]; simp; omega), wrap_i64_succ (by omega)]
    rw [show s * all + (i + 1) = (s * all + i) + 1 by omega, spreadL_succ]
    unfold spreadP
    rw [div_at hi, mod_at hi, getD_of hm]) (by
    have di : decide ((all : Int) < (all : Int)) = false := by simp
    simp only [G22_2, di, cond_false]
    rw [wrap_i64_succ (by omega), show s * all + all = (s + 1) * all by rw [Nat.add_mul]; omega])
  exact this

theorem spread_all {ps : List Int} {all : Nat} (hps : 1 ≤ ps.length) (hpl : ps.length < 100) (hall : all < 100) (ss st : List Stripe) (hss : ss.length ≤ 16) (hal : ∀ s ∈ ss, s.1.2 = (all : Int)) (o nm sz a b c : Int) :
    loopO G22_1 (([] : List Place), ((0 : Int), ((ss.length : Int), (ss, (o, (nm, (sz, (st, (a, (b, (c, ps))))))))))) = some ((o, (nm, (sz, (st, spreadL ps all (ss.length * all))))), 0) := by
  have := loopO_for (f := G22_1) (fun s => (spreadL ps all (s * all), ((s : Int), ((ss.length : Int), (ss, (o, (nm, (sz, (st, (a, (b, (c, ps)))))))))))) ss.length
    (r := ((o, (nm, (sz, (st, spreadL ps all (ss.length * all))))), 0)) (by
    intro s hs
    have ds : decide ((s : Int) < (ss.length : Int)) = true := by simp only [decide_eq_true_eq]; omega
    simp only [G22_1, ds, cond_true]
    rw [guardT_pos (by omega), getElem?_toNat hs, Option.bind_some, hal _ (List.getElem_mem hs)]
    exact spread_row hps hpl hall (by omega) (ss.length : Int) ss (o, (nm, (sz, (st, (a, (b, (c, ps))))))) rfl) (by
    have ds : decide ((ss.length : Int) < (ss.length : Int)) = false := by simp
    simp only [G22_1, ds, cond_false])
  simpa [spreadL] using this

theorem twice_small {ps : List Int} (h : ps ∈ twiceL) : 1 ≤ ps.length ∧ ps.length < 100 ∧ 3 ≤ ps.length := by
  simp only [twiceL, List.mem_cons, List.not_mem_nil, or_false] at h
  rcases h with rfl | rfl | rfl | rfl | rfl <;> decide
theorem twice_nodup {ps : List Int} (h : ps ∈ twiceL) : ps.Nodup := by
  simp only [twiceL, List.mem_cons, List.not_mem_nil, or_false] at h
  rcases h with rfl | rfl | rfl | rfl | rfl <;> decide

theorem g22_eq {b : Backup} {ps : List Int} {all : Nat} (hw : Whole b) (hv : placesOkB b.1 b.2.2.2.1 b.2.2.2.2 = true) (hpl : b.2.2.2.2.length ≤ 2 ^ 32) (h2 : ps ∈ twiceL) (hs : ps.any (strangeB b.1) = false) (hal : all ≤ ps.length)
    (hall : ∀ s ∈ b.2.2.2.1, s.1.2 = (all : Int)) : g22 (b, ps) = some ((b.1, (b.2.1, (b.2.2.1, (b.2.2.2.1, spreadL ps all (b.2.2.2.1.length * all))))), 0) := by
  obtain ⟨t1, t2, _⟩ := twice_small h2
  have hd : ∀ s ∈ b.2.2.2.1, s.2.2.length ≤ 2 ^ 32 := by
    intro s hm
    obtain ⟨⟨need, a, e1, e2, e3, e4, e5, _⟩, _⟩ := hw.each s hm
    omega
  have hfew : b.2.2.2.1.any (fewB ps.length) = false := by
    rw [List.any_eq_false]
    intro s hm
    simp only [fewB, hall s hm, decide_eq_true_eq]; omega
  have hf := hw.few
  simp only [g22, G22]
  rw [show (b.1, (b.2.1, (b.2.2.1, (b.2.2.2.1, b.2.2.2.2)))) = b from rfl, g56_eq b (by omega) hpl hd, Option.bind_some, g21_eq hw, hv, Option.bind_some]
  simp only [Bool.not_true, cond_false]
  rw [g57p_eq ps b (by omega), hs, Option.bind_some]
  simp only [cond_false]
  rw [show g58 ps = some false by simp only [g58, if_pos h2], Option.bind_some]
  simp only [cond_false]
  rw [g59_eq _ _ (by omega), hfew]
  simp only [Option.bind_some, cond_false]
  exact spread_all t1 t2 (by omega) _ _ hw.few hall _ _ _ _ _ _

/-! ### What was spread is valid -/
theorem spreadL_get {ps : List Int} {all m k : Nat} (h : k < m) : (spreadL ps all m)[k]'(by rw [spreadL_length]; exact h) = spreadP ps all k := by simp [spreadL]
theorem spreadL_take (ps : List Int) (all m k : Nat) (h : k ≤ m) : (spreadL ps all m).take k = spreadL ps all k := by
  simp only [spreadL, ← List.map_take, List.take_range, Nat.min_eq_left h]
theorem peers_ne {ps : List Int} (hn : ps.Nodup) {a b : Nat} (h : a < b) (hb : b < a + ps.length) : ps.getD (a % ps.length) 0 ≠ ps.getD (b % ps.length) 0 := by
  have hl : 0 < ps.length := by omega
  rw [getD_of (Nat.mod_lt _ hl), getD_of (Nat.mod_lt _ hl)]
  intro e
  have e := (List.getElem_inj hn).1 e
  have := Nat.sub_mod_eq_zero_of_mod_eq e.symm
  have := Nat.mod_eq_of_lt (show b - a < ps.length by omega)
  omega
theorem not_strange {owner : Int} {ps : List Int} (h : ps.any (strangeB owner) = false) {x : Int} (hx : x ∈ ps) : personOk x = true ∧ (x == owner) = false := by
  have := (List.any_eq_false.1 h) x hx
  simpa [strangeB] using this
theorem ltP_iff {p q : Place} : ltP p q = true ↔ p.1 < q.1 ∨ p.1 = q.1 ∧ p.2.1 < q.2.1 := by
  simp only [ltP, Bool.or_eq_true, Bool.and_eq_true, decide_eq_true_eq, beq_iff_eq]
theorem hasB_of {ss : List Stripe} {s i : Nat} (hs : s < ss.length) (hi : (i : Int) < ss[s].1.2) : hasB ss (s : Int) (i : Int) = true := by
  simp only [hasB, Bool.and_eq_true, decide_eq_true_eq, Int.toNat_natCast]
  rw [getD_of hs]
  exact ⟨⟨⟨by omega, by omega⟩, by omega⟩, hi⟩
theorem clashB_false {l : List Place} {p : Place} (h : ∀ x ∈ l, x.1 = p.1 → x.2.2 ≠ p.2.2) : clashB l p = false := by
  unfold clashB
  rw [List.any_eq_false]
  intro x hx
  simp only [Bool.and_eq_true, beq_iff_eq, not_and]
  exact h x hx
theorem spread_valid {owner : Int} {ss : List Stripe} {ps : List Int} {all : Nat} (hn : ps.Nodup) (hs : ps.any (strangeB owner) = false) (ha : 1 ≤ all) (hal : all ≤ ps.length) (hall : ∀ s ∈ ss, s.1.2 = (all : Int)) :
    placesOkB owner ss (spreadL ps all (ss.length * all)) = true := by
  unfold placesOkB
  rw [List.all_eq_true]
  intro k hk
  rw [spreadL_length, List.mem_range] at hk
  have hd : ∀ j, j < ss.length * all → (spreadL ps all (ss.length * all)).getD j zP = spreadP ps all j := by
    intro j hj
    rw [getD_of (by rw [spreadL_length]; exact hj), spreadL_get hj]
  have hpos : 0 < all := by omega
  have hdm := Nat.div_add_mod k all
  have hmod := Nat.mod_lt k hpos
  have hdiv : k / all < ss.length := Nat.div_lt_of_lt_mul (by rw [Nat.mul_comm]; exact hk)
  have hmem : ps.getD ((k / all + k % all) % ps.length) 0 ∈ ps := by
    rw [getD_of (Nat.mod_lt _ (by omega))]; exact List.getElem_mem _
  obtain ⟨q1, q2⟩ := not_strange hs hmem
  unfold placeOkB
  rw [hd k hk, spreadL_take _ _ _ _ (by omega)]
  simp only [Bool.and_eq_true, Bool.or_eq_true, Bool.not_eq_true', beq_iff_eq]
  refine ⟨?_, ?_, q1, q2, ?_⟩
  · rcases Nat.eq_zero_or_pos k with h0 | h0
    · exact .inl h0
    · right
      rw [hd (k - 1) (by omega), ltP_iff]
      rcases Nat.eq_zero_or_pos (k % all) with hz | hz
      · left
        have : (k - 1) / all < k / all := by
          rw [Nat.div_lt_iff_lt_mul hpos, Nat.mul_comm]
          exact Nat.lt_of_lt_of_eq (Nat.sub_lt h0 (by omega)) (by omega)
        exact Int.ofNat_lt.2 this
      · right
        have e : k - 1 = (k / all) * all + (k % all - 1) := by rw [Nat.mul_comm]; omega
        have e1 : (k - 1) / all = k / all := by rw [e]; exact div_at (by omega)
        have e2 : (k - 1) % all = k % all - 1 := by rw [e]; exact mod_at (by omega)
        exact ⟨congrArg Nat.cast e1, Int.ofNat_lt.2 (by rw [e2]; omega)⟩
  · exact hasB_of hdiv (by rw [hall _ (List.getElem_mem hdiv)]; exact Int.ofNat_lt.2 hmod)
  · refine clashB_false fun x hx => ?_
    simp only [spreadL, List.mem_map, List.mem_range] at hx
    obtain ⟨j, hj, rfl⟩ := hx
    intro e1 e2
    have e1 : j / all = k / all := Int.ofNat_inj.1 e1
    have hdj := Nat.div_add_mod j all
    have hmj := Nat.mod_lt j hpos
    simp only [spreadP] at e2
    rw [e1] at hdj e2
    exact peers_ne hn (a := k / all + j % all) (b := k / all + k % all) (by omega) (by omega) e2
end Go.Abs

/- Who has a place; the places of a peer; shards that are right. -/
namespace Go.Abs
open Go Go.Proofs
set_option maxRecDepth 100000

/-! ### At -/
def isAt (s i : Int) (x : Place) : Bool := x.1 == s && x.2.1 == i
def atL (l : List Place) (s i : Int) : Int := match l.findIdx? (isAt s i) with
  | some k => (l.getD k zP).2.2
  | none => 0
theorem g60_eq (b : Backup) (s i : Int) (hl : b.2.2.2.2.length < 2 ^ 60) : g60 (b, (s, i)) = some (idxI (b.2.2.2.2.findIdx? (isAt s i))) := by
  generalize hlist : b.2.2.2.2 = l
  rw [hlist] at hl
  have : g125a (l, (s, i)) = some (idxI (l.findIdx? (isAt s i))) :=
    loopO_find (f := G125a_1 g126) (l := l) (fun k => ((k : Int), ((l.length : Int), (s, (i, l))))) (isAt s i) (fun k => (k : Int)) (-1) (by
      intro k hk
      have dk : decide ((k : Int) < (l.length : Int)) = true := by simp; exact hk
      have e : g126 ((l[k].1, (l[k].2.1, l[k].2.2)), (s, i)) = some (isAt s i l[k]) := by
        simp only [g126, G126, isAt]
        cases l[k].1 == s <;> rfl
      simp only [G125a_1, dk, cond_true]
      rw [guardT_pos (by omega), getElem?_toNat hk, Option.bind_some, e, Option.bind_some, wrap_i64_succ (by omega)]
      cases isAt s i l[k] <;> rfl) (by
      have dk : decide ((l.length : Int) < (l.length : Int)) = false := by simp
      simp only [G125a_1, dk, cond_false]; try rfl)
  simp only [g60, G60]
  rw [hlist, this]; rfl
theorem findIdx?_lt {α : Type} {q : α → Bool} : ∀ {l : List α} {k : Nat}, l.findIdx? q = some k → ∃ h : k < l.length, q l[k] = true
  | [], k, h => by simp at h
  | x :: l, k, h => by
    rw [List.findIdx?_cons] at h
    by_cases hq : q x = true
    · simp only [hq, if_true, Option.some.injEq] at h
      subst h
      exact ⟨by simp, hq⟩
    · simp only [show q x = false by simpa using hq, Bool.false_eq_true, if_false, Option.map_eq_some_iff] at h
      obtain ⟨j, h1, rfl⟩ := h
      obtain ⟨h2, h3⟩ := findIdx?_lt h1
      exact ⟨by simp; omega, by simpa using h3⟩
theorem g23_eq (b : Backup) (s i : Int) (hl : b.2.2.2.2.length < 2 ^ 60) : g23 (b, (s, i)) = some (atL b.2.2.2.2 s i) := by
  simp only [g23, G23]
  rw [show (b.1, (b.2.1, (b.2.2.1, (b.2.2.2.1, b.2.2.2.2)))) = b from rfl, g60_eq b s i hl, Option.bind_some]
  unfold atL
  cases h : b.2.2.2.2.findIdx? (isAt s i) with
  | none => rfl
  | some k =>
    obtain ⟨h1, _⟩ := findIdx?_lt h
    have d : decide (idxI (some k) ≥ 0) = true := by simp [idxI]
    rw [d, cond_true, guardT_pos (show (0 : Int) ≤ idxI (some k) by simp [idxI]), show idxI (some k) = ((k : Nat) : Int) from rfl, getElem?_toNat h1, Option.bind_some]
    show _ = some (b.2.2.2.2.getD k zP).2.2
    rw [getD_of h1]
theorem findIdx?_some_of {α : Type} {q : α → Bool} {l : List α} {k : Nat} (h : k < l.length) (hq : q l[k] = true) : ∃ j, l.findIdx? q = some j := by
  have : (l.findIdx? q).isSome = true := by
    rw [List.findIdx?_isSome, List.any_eq_true]
    exact ⟨_, List.getElem_mem h, hq⟩
  exact Option.isSome_iff_exists.1 this
theorem spread_at {ps : List Int} {all m s i : Nat} (hi : i < all) (hm : s * all + i < m) : atL (spreadL ps all m) (s : Int) (i : Int) = ps.getD ((s + i) % ps.length) 0 := by
  have hk : s * all + i < (spreadL ps all m).length := by rw [spreadL_length]; exact hm
  obtain ⟨j, hj⟩ := findIdx?_some_of (q := isAt (s : Int) (i : Int)) hk (by
    rw [spreadL_get hm]
    simp only [isAt, spreadP, div_at hi, mod_at hi, beq_self_eq_true, Bool.and_true])
  obtain ⟨h1, h2⟩ := findIdx?_lt hj
  unfold atL
  rw [hj]
  simp only
  rw [getD_of h1]
  rw [spreadL_length] at h1
  rw [spreadL_get h1] at h2 ⊢
  simp only [isAt, spreadP, Bool.and_eq_true, beq_iff_eq, Int.ofNat_inj] at h2
  simp only [spreadP, h2.1, h2.2]

/-! ### With -/
structure DelInv {α : Type} (l : List α) (keep : α → Bool) (l' : List α) (k j : Nat) : Prop where
  len : l'.length = l.length
  jk : j < k
  front : l'.take j = (l.take k).filter keep
  back : l'.drop k = l.drop k
theorem take_succ_of {α : Type} (l : List α) {k : Nat} (h : k < l.length) : l.take (k + 1) = l.take k ++ [l[k]] := by simp
theorem DelInv.keeps {α : Type} {l : List α} {keep : α → Bool} {l' : List α} {k j : Nat} (h : DelInv l keep l' k j) (hk : k < l.length) (hq : keep l[k] = true) : DelInv l keep (l'.set j l[k]) (k + 1) (j + 1) := {
  len := by rw [List.length_set, h.len]
  jk := by have := h.jk; omega
  front := by
    have hj : j < l'.length := by have := h.jk; have := h.len; omega
    rw [take_succ_of l hk, List.filter_append, ← h.front, take_succ_of _ (by rw [List.length_set]; exact hj), List.getElem_set_self, List.take_set_of_le (Nat.le_refl _)]
    simp [hq]
  back := by
    rw [List.drop_set_of_lt (by have := h.jk; omega)]
    have := congrArg (List.drop 1) h.back
    simpa [List.drop_drop] using this }
theorem DelInv.drops {α : Type} {l : List α} {keep : α → Bool} {l' : List α} {k j : Nat} (h : DelInv l keep l' k j) (hk : k < l.length) (hq : keep l[k] = false) : DelInv l keep l' (k + 1) j := {
  len := h.len
  jk := by have := h.jk; omega
  front := by rw [take_succ_of l hk, List.filter_append, ← h.front]; simp [hq]
  back := by
    have := congrArg (List.drop 1) h.back
    simpa [List.drop_drop] using this }
theorem DelInv.at {α : Type} {l : List α} {keep : α → Bool} {l' : List α} {k j : Nat} (h : DelInv l keep l' k j) (hk : k < l.length) : ∃ h' : k < l'.length, l'[k] = l[k] := by
  refine ⟨by rw [h.len]; exact hk, ?_⟩
  have := congrArg (·[0]?) h.back
  simpa [h.len, hk] using this

def isOf (p : Int) (x : Place) : Bool := x.2.2 == p
theorem del_loop {l : List Place} {p : Int} (hl : l.length < 2 ^ 60) : ∀ (m k j : Nat) (l' : List Place), k + m = l.length → DelInv l (isOf p) l' k j →
    loopO (G64_1 g66) (l', ((k : Int), ((j : Int), p))) = some (l.filter (isOf p), p)
  | 0, k, j, l', hk, h => by
    have dk : decide ((k : Int) < (l'.length : Int)) = false := by simp [h.len]; omega
    have hjk := h.jk
    have hlen := h.len
    refine loopO_end ?_
    simp only [G64_1, dk, cond_false]
    simp only [Int.toNat_natCast]
    rw [guardT_pos (by omega), guardT_pos (by omega), guardT_pos (by omega), guardT_pos (by simp; omega), Option.bind_some]
    simp only [Option.bind_some]
    have e : List.take j (List.drop 0 (List.take j l' ++ List.replicate (l'.length - j) ((0 : Int), ((0 : Int), (0 : Int))) ++ List.drop (j + (l'.length - j)) l')) = l.filter (isOf p) := by
      have hf := h.front
      rw [List.take_of_length_le (l := l) (by omega)] at hf
      rw [List.drop_zero, List.append_assoc, List.take_append_of_le_length (by simp; omega), List.take_take, Nat.min_self, hf]
    rw [e]
  | m + 1, k, j, l', hk, h => by
    have hlt : k < l.length := by omega
    obtain ⟨h1, h2⟩ := h.at hlt
    have hjk := h.jk
    have hlen := h.len
    have dk : decide ((k : Int) < (l'.length : Int)) = true := by simp; omega
    have hj' : j < l'.length := by omega
    rw [loopO_eq]
    simp only [G64_1, dk, cond_true]
    rw [guardT_pos (by omega), getElem?_toNat h1, Option.bind_some, h2]
    rw [show g66 ((l[k].1, (l[k].2.1, l[k].2.2)), p) = some (!isOf p l[k]) from rfl, Option.bind_some, wrap_i64_succ (k := k) (by omega)]
    cases hq : isOf p l[k] with
    | false =>
      simp only [Bool.not_false, Bool.not_true, cond_false]
      exact del_loop hl m (k + 1) j l' (by omega) (h.drops hlt hq)
    | true =>
      simp only [Bool.not_true, Bool.not_false, cond_true]
      rw [guardT_pos (by omega), getElem?_toNat hj', Option.bind_some, wrap_i64_succ (k := j) (by omega), Int.toNat_natCast]
      exact del_loop hl m (k + 1) (j + 1) (l'.set j l[k]) (by omega) (h.keeps hlt hq)

theorem g64_eq (l : List Place) (p : Int) (hl : l.length < 2 ^ 60) : g64 (l, p) = some (l.filter (isOf p), p) := by
  have hfind : g125d (l, p) = some (idxI (l.findIdx? fun x => !isOf p x)) :=
    loopO_find (f := G125d_1 g66) (l := l) (fun k => ((k : Int), ((l.length : Int), (p, l)))) (fun x => !isOf p x) (fun k => (k : Int)) (-1) (by
      intro k hk
      have dk : decide ((k : Int) < (l.length : Int)) = true := by simp; exact hk
      simp only [G125d_1, dk, cond_true]
      rw [guardT_pos (by omega), getElem?_toNat hk, Option.bind_some, show g66 ((l[k].1, (l[k].2.1, l[k].2.2)), p) = some (!isOf p l[k]) from rfl, Option.bind_some, wrap_i64_succ (by omega)]
      cases isOf p l[k] <;> rfl) (by
      have dk : decide ((l.length : Int) < (l.length : Int)) = false := by simp
      simp only [G125d_1, dk, cond_false]; try rfl)
  simp only [g64, G64]
  rw [hfind, Option.bind_some]
  cases h : l.findIdx? fun x => !isOf p x with
  | none =>
    have : l.filter (isOf p) = l := by
      rw [List.filter_eq_self]
      intro x hx
      rw [List.findIdx?_eq_none_iff] at h
      simpa using h x hx
    rw [this]; rfl
  | some k =>
    obtain ⟨h1, h2⟩ := findIdx?_lt h
    have hne : (idxI (some k) == (Neg.neg (1 : Int))) = false := by
      simp only [idxI, beq_eq_false_iff_ne, ne_eq]; omega
    rw [hne, cond_false]
    simp only [idxI]
    rw [wrap_i64_succ (by omega)]
    refine del_loop hl (l.length - (k + 1)) (k + 1) k l (by omega) ⟨rfl, by omega, ?_, rfl⟩
    have hb : ∀ x ∈ l.take k, isOf p x = true := by
      intro x hx
      obtain ⟨j, hj, rfl⟩ := List.mem_take_iff_getElem.1 hx
      have := (List.findIdx?_eq_some_iff_getElem.1 h).2.2 j (by omega)
      simpa using this
    rw [take_succ_of l h1, List.filter_append, List.filter_eq_self.2 hb]
    have : isOf p l[k] = false := by simpa using h2
    simp [this]
theorem g25_eq (b : Backup) (p : Int) (hl : b.2.2.2.2.length ≤ 2 ^ 32) : g25 (b, p) = some (b.2.2.2.2.filter (isOf p)) := by
  simp only [g25, G25]
  rw [show g65g b.2.2.2.2 = some b.2.2.2.2 by simp only [g65g, cloneT, if_pos hl], Option.bind_some, g64_eq _ _ (by omega), Option.bind_some]
end Go.Abs

/- Shards that are right; backups of short texts. -/
namespace Go.Abs
open Go Go.Proofs
set_option maxRecDepth 100000

theorem g61_eq {s : Stripe} (h : StripeOk s) : g61 s = some 0 := by
  obtain ⟨⟨a, b⟩, ⟨size, ds⟩⟩ := s
  obtain ⟨⟨need, all, e, h0, h1, h16, hd, L, hL, hL2, hLm⟩, hds⟩ := h
  simp only at e hd hL hds
  cases e
  subst hL
  have hc : codeOk (need : Int) (all : Int) = true := codeOk_iff.2 ⟨by omega, by omega, by omega⟩
  have d1 : decide ((L : Int) < 2) = false := by simp; omega
  simp only [g61, G61]
  rw [g46_eq, hc, if_pos rfl, Option.bind_some, z00, cond_false, d1, cond_false, g62_eq h0 h1 h16 (by omega), Option.bind_some]
  simp only [lenR, if_pos hLm, z00, cond_false]
  have d2 : ((ds.length : Int) != (all : Int)) = false := by simp [hd]
  rw [d2, cond_false]
  exact loopO_for (f := G61_1) (fun k => ((k : Int), ((ds.length : Int), ds))) ds.length (r := (0 : Int)) (by
    intro k hk
    have dk : decide ((k : Int) < (ds.length : Int)) = true := by simp; exact hk
    have hx := hds _ (List.getElem_mem hk)
    have e1 : decide (ds[k] < 0) = false := by simp; omega
    have e2 : decide (ds[k] ≥ 2147483647) = false := by simp; omega
    simp only [G61_1, dk, cond_true]
    rw [guardT_pos (by omega), getElem?_toNat hk, Option.bind_some, e1, cond_false, Option.bind_some, e2, cond_false, wrap_i64_succ (by omega)]) (by
    have dk : decide ((ds.length : Int) < (ds.length : Int)) = false := by simp
    simp only [G61_1, dk, cond_false])

theorem g24_right {need all : Nat} (h0 : 1 ≤ need) (h : need ≤ all) (h16 : all ≤ 16) {t : List UInt8} {k : Int} (hL : (sealB t k).length ≤ need * 1024) {i : Nat} (hi : i < all) :
    g24 (stripeS need all t k, (((encS need all (sealB t k)).getD i (0, [])).1, ((encS need all (sealB t k)).getD i (0, [])).2)) = some true := by
  have hlen : i < (encS need all (sealB t k)).length := by rw [encS_length]; exact hi
  have hn := nOf_le h0 hL
  rw [getD_of hlen]
  have e1 : (encS need all (sealB t k))[i].1 = (i : Int) := by simp [encS, encTo]
  have e2 : (encS need all (sealB t k))[i].2.length = nOf need (sealB t k).length := encS_len _ (List.getElem_mem hlen)
  have hdi : i < (digs (encS need all (sealB t k))).length := by simp [digs]; exact hlen
  have e3 : (digs (encS need all (sealB t k)))[i] = sumB (encS need all (sealB t k))[i].2 := by simp [digs]
  have hok := g61_eq (stripeS_ok h0 h h16 (t := t) (k := k) hL)
  generalize hx : (encS need all (sealB t k))[i] = x at *
  obtain ⟨x1, x2⟩ := x
  simp only at e1 e2 e3
  subst e1
  have d1 : decide ((i : Int) < 0) = false := by simp
  have d2 : decide ((i : Int) ≥ (all : Int)) = false := by simp; omega
  have d3 : ((x2.length : Int) == ((nOf need (sealB t k).length : Nat) : Int)) = true := by rw [e2]; simp
  simp only [g24, G24]
  rw [show g61 (((stripeS need all t k).1.1, (stripeS need all t k).1.2), ((stripeS need all t k).2.1, (stripeS need all t k).2.2)) = some 0 from hok, Option.bind_some, z00, cond_false, d1, cond_false]
  rw [show (stripeS need all t k).1.2 = (all : Int) from rfl, d2, Option.bind_some]
  simp only [cond_false]
  rw [show (stripeS need all t k).1.1 = (need : Int) from rfl, show (stripeS need all t k).2.1 = ((sealB t k).length : Int) from rfl, show (stripeS need all t k).2.2 = digs (encS need all (sealB t k)) from rfl,
    g62_eq h0 h h16 (by omega), Option.bind_some]
  simp only [lenR, if_pos hL]
  rw [d3, cond_true, g63_eq (by omega), Option.bind_some, guardT_pos (by omega), getElem?_toNat hdi, Option.bind_some, e3]
  simp

/-! ### Backups of short texts -/
theorem makeL_all {need all : Nat} {key : Int} (hk : keyOk key = true) : ∀ (l : List (List UInt8)) (a : List Stripe) (b : List (List Shard)), (∀ x ∈ l, (sealB x key).length ≤ need * 1024) →
    makeL need all key l a b = (a ++ l.map (fun x => stripeS need all x key), (b ++ l.map (fun x => encS need all (sealB x key)), 0))
  | [], a, b, _ => by simp [makeL]
  | x :: l, a, b, h => by
    have hs : makeS need all x key = (stripeS need all x key, (encS need all (sealB x key), 0)) := by
      unfold makeS; rw [if_neg (by simp [hk]), if_pos (h x (by simp))]
    rw [makeL, hs, if_neg (by simp), makeL_all hk l _ _ fun y hy => h y (by simp [hy])]
    simp
theorem makeB_short {need all part : Nat} {key owner number : Int} {t : List UInt8} (hk : keyOk key = true) (hh : headOk owner number = true) (h0 : 1 ≤ need) (h : need ≤ all) (h16 : all ≤ 16) (hp : 1 ≤ part) (hp2 : part ≤ 1000) (ht : t.length ≤ part * 16) :
    makeB owner number t need all key part = ((owner, (number, ((t.length : Int), ((chunks part t (nOf part t.length)).map (fun x => stripeS need all x key), [])))), ((chunks part t (nOf part t.length)).map (fun x => encS need all (sealB x key)), 0)) ∧
      (∀ x ∈ chunks part t (nOf part t.length), (sealB x key).length ≤ need * 1024) ∧ (chunks part t (nOf part t.length)).length ≤ 16 := by
  have hseal : ∀ x ∈ chunks part t (nOf part t.length), (sealB x key).length ≤ need * 1024 := by
    intro x hx
    simp only [chunks, List.mem_map, List.mem_range] at hx
    obtain ⟨i, _, rfl⟩ := hx
    have := (sealB_length ((t.drop (i * part)).take part) key).2
    rw [List.length_take] at this
    omega
  have hcut : cutR t (part : Int) = (chunks part t (nOf part t.length), 0) := by
    unfold cutR
    rw [if_neg (by omega), if_neg (by omega), Int.toNat_natCast]
  refine ⟨?_, hseal, by rw [chunks_length]; exact nOf_le16 hp ht⟩
  unfold makeB
  rw [if_neg (by simp [hh]), if_neg (by rw [codeOk_iff.2 ⟨by omega, by omega, by omega⟩]; simp), hcut, if_neg (by simp), Int.toNat_natCast, Int.toNat_natCast]
  simp only
  rw [makeL_all hk _ _ _ hseal]
  unfold endM
  rw [if_neg (by simp)]
  simp
end Go.Abs

/- BackupSpreads is true. -/
namespace Go.Abs
open Go Go.Proofs
set_option maxRecDepth 100000

/-! ### The places of all peers -/
def cntTo (l : List Place) : Nat → Nat
  | 0 => 0
  | k + 1 => cntTo l k + (l.filter (isOf ((2 + k : Nat) : Int))).length
theorem cntTo_le (l : List Place) : ∀ k, cntTo l k ≤ k * l.length
  | 0 => by simp [cntTo]
  | k + 1 => by
    have := cntTo_le l k
    have := List.length_filter_le (isOf ((2 + k : Nat) : Int)) l
    simp only [cntTo, Nat.add_mul]; omega
theorem cntTo_cons (x : Place) (l : List Place) : ∀ k, cntTo (x :: l) k = cntTo l k + if 2 ≤ x.2.2 ∧ x.2.2 < 2 + (k : Int) then 1 else 0
  | 0 => by
    have : ¬ (2 ≤ x.2.2 ∧ x.2.2 < 2 + ((0 : Nat) : Int)) := by omega
    rw [if_neg this]; rfl
  | k + 1 => by
    simp only [cntTo]
    rw [cntTo_cons x l k, List.filter_cons]
    by_cases h : x.2.2 = ((2 + k : Nat) : Int)
    · have h1 : isOf ((2 + k : Nat) : Int) x = true := by simp [isOf, h]
      rw [if_neg (by omega), if_pos h1, if_pos (by omega), List.length_cons]; omega
    · have h1 : isOf ((2 + k : Nat) : Int) x = false := by simp only [isOf, beq_eq_false_iff_ne]; exact h
      rw [h1]
      simp only [Bool.false_eq_true, if_false]
      by_cases h2 : 2 ≤ x.2.2 ∧ x.2.2 < 2 + (k : Int)
      · rw [if_pos h2, if_pos (by omega)]; omega
      · rw [if_neg h2, if_neg (by omega)]; omega
theorem cntTo_all : ∀ {l : List Place}, (∀ x ∈ l, 2 ≤ x.2.2 ∧ x.2.2 < 7) → cntTo l 5 = l.length
  | [], _ => rfl
  | x :: l, h => by
    have := h x (by simp)
    rw [cntTo_cons, cntTo_all fun y hy => h y (by simp [hy]), if_pos (by omega), List.length_cons]
theorem with_loop (o n z : Int) (ss : List Stripe) {pl : List Place} (hl : pl.length ≤ 2 ^ 32) (h : ∀ x ∈ pl, 2 ≤ x.2.2 ∧ x.2.2 < 7) : loopO (G4_4 g25) ((2 : Int), ((0 : Int), (o, (n, (z, (ss, pl)))))) = some true := by
  have := loopO_for (f := G4_4 g25) (fun k => (((2 + k : Nat) : Int), ((cntTo pl k : Int), (o, (n, (z, (ss, pl))))))) 5 (r := true) (by
    intro k hk
    have dk : decide (((2 + k : Nat) : Int) ≤ 6) = true := by simp only [decide_eq_true_eq]; omega
    have hc := cntTo_le pl (k + 1)
    have hc2 : (k + 1) * pl.length ≤ 5 * pl.length := Nat.mul_le_mul_right _ (by omega)
    simp only [G4_4, dk, cond_true]
    rw [g25_eq _ _ hl, Option.bind_some]
    simp only [cntTo] at hc ⊢
    rw [show (((2 + k : Nat) : Int) + 1) = ((2 + (k + 1) : Nat) : Int) by omega, wrap_nat (by omega), show (cntTo pl k : Int) + ((pl.filter (isOf ((2 + k : Nat) : Int))).length : Int) = ((cntTo pl k + (pl.filter (isOf ((2 + k : Nat) : Int))).length : Nat) : Int) by omega, wrap_nat (by omega)]) (by
    have dk : decide (((2 + 5 : Nat) : Int) ≤ 6) = false := by decide
    simp only [G4_4, dk, cond_false]
    rw [cntTo_all h]; simp)
  exact this

/-! ### Each stripe -/
section
variable {need all part : Nat} {key o n z : Int} {t : List UInt8} {ps : List Int} (xs : List (List UInt8))
variable (h0 : 1 ≤ need) (h : need ≤ all) (h16 : all ≤ 16) (hseal : ∀ x ∈ xs, (sealB x key).length ≤ need * 1024) (hxs : xs.length ≤ 16)
variable (hn : ps.Nodup) (hal : all ≤ ps.length) (hp2 : ∀ x ∈ ps, 2 ≤ x ∧ x < 7)

noncomputable abbrev stripesOf (need all : Nat) (key : Int) (xs : List (List UInt8)) : List Stripe := xs.map fun x => stripeS need all x key
noncomputable abbrev shardsOf (need all : Nat) (key : Int) (xs : List (List UInt8)) : List (List Shard) := xs.map fun x => encS need all (sealB x key)
noncomputable abbrev backupOf (o n z : Int) (need all : Nat) (key : Int) (ps : List Int) (xs : List (List UInt8)) : Backup := (o, (n, (z, (stripesOf need all key xs, spreadL ps all (xs.length * all)))))

include h16 hxs in
theorem places_few : (spreadL ps all (xs.length * all)).length ≤ 256 := by
  rw [spreadL_length]; exact Nat.mul_le_mul hxs h16
include h16 hxs in
theorem at_spread {i k : Nat} (hi : i < xs.length) (hk : k < all) : g23 (backupOf o n z need all key ps xs, ((i : Int), (k : Int))) = some (ps.getD ((i + k) % ps.length) 0) := by
  have hf := places_few (ps := ps) xs h16 hxs
  rw [g23_eq _ _ _ (by show (spreadL ps all (xs.length * all)).length < _; omega)]
  have : (i + 1) * all ≤ xs.length * all := Nat.mul_le_mul_right _ hi
  rw [Nat.add_mul] at this
  exact congrArg some (spread_at hk (by omega))

include h16 hxs hn hal in
theorem loop3 {i k : Nat} (hi : i < xs.length) (hk : k < all) (l : List (List Shard)) (c1 c2 : Int) :
    loopO (G4_3 g23) ((i : Int), ((xs.length : Int), ((0 : Int), (ps.getD ((i + k) % ps.length) 0, ((k : Int), ((i : Int), (l, (o, (n, (z, (stripesOf need all key xs, (spreadL ps all (xs.length * all), (c1, c2))))))))))))) =
      some (.inl ((i : Int), ((xs.length : Int), (((k + 1 : Nat) : Int), ((i : Int), (l, (o, (n, (z, (stripesOf need all key xs, (spreadL ps all (xs.length * all), (c1, c2)))))))))))) := by
  have := loopO_for (f := G4_3 g23) (fun j => ((i : Int), ((xs.length : Int), ((j : Int), (ps.getD ((i + k) % ps.length) 0, ((k : Int), ((i : Int), (l, (o, (n, (z, (stripesOf need all key xs, (spreadL ps all (xs.length * all), (c1, c2)))))))))))))) k
    (r := .inl ((i : Int), ((xs.length : Int), (((k + 1 : Nat) : Int), ((i : Int), (l, (o, (n, (z, (stripesOf need all key xs, (spreadL ps all (xs.length * all), (c1, c2)))))))))))) (by
    intro j hj
    have dj : decide ((j : Int) < (k : Int)) = true := by simp only [decide_eq_true_eq]; omega
    have hne : (ps.getD ((i + j) % ps.length) 0 == ps.getD ((i + k) % ps.length) 0) = false := by
      rw [beq_eq_false_iff_ne]
      exact peers_ne hn (by omega) (by omega)
    simp only [G4_3, dj, cond_true]
    rw [at_spread xs h16 hxs hi (by omega : j < all), Option.bind_some, hne, cond_false, wrap_i64_succ (by omega)]) (by
    have dj : decide ((k : Int) < (k : Int)) = false := by simp
    simp only [G4_3, dj, cond_false]
    rw [wrap_i64_succ (by omega)])
  exact this

include h0 h h16 hseal hxs hn hal hp2 in
theorem loop2 {i : Nat} (hi : i < xs.length) (c1 : Int) :
    loopO (G4_2 g23 g24) ((i : Int), ((xs.length : Int), ((0 : Int), ((i : Int), (shardsOf need all key xs, (o, (n, (z, (stripesOf need all key xs, (spreadL ps all (xs.length * all), (c1, (all : Int))))))))))) ) =
      some (.inl (((i + 1 : Nat) : Int), ((xs.length : Int), (shardsOf need all key xs, (o, (n, (z, (stripesOf need all key xs, (spreadL ps all (xs.length * all), (c1, (all : Int)))))))))) ) := by
  have := loopO_for (f := G4_2 g23 g24) (fun k => ((i : Int), ((xs.length : Int), ((k : Int), ((i : Int), (shardsOf need all key xs, (o, (n, (z, (stripesOf need all key xs, (spreadL ps all (xs.length * all), (c1, (all : Int)))))))))))) ) all
    (r := .inl (((i + 1 : Nat) : Int), ((xs.length : Int), (shardsOf need all key xs, (o, (n, (z, (stripesOf need all key xs, (spreadL ps all (xs.length * all), (c1, (all : Int)))))))))) ) (by
    intro k hk
    have dk : decide ((k : Int) < (all : Int)) = true := by simp only [decide_eq_true_eq]; omega
    have hmod : (i + k) % ps.length < ps.length := Nat.mod_lt _ (by omega)
    have hpk := hp2 _ (List.getElem_mem hmod)
    have d2 : decide (ps.getD ((i + k) % ps.length) 0 < 2) = false := by rw [getD_of hmod]; simp; omega
    have hil : i < (shardsOf need all key xs).length := by simpa using hi
    have his : i < (stripesOf need all key xs).length := by simpa using hi
    have el : (shardsOf need all key xs)[i] = encS need all (sealB xs[i] key) := by simp
    have es : (stripesOf need all key xs)[i] = stripeS need all xs[i] key := by simp
    have hke : k < (encS need all (sealB xs[i] key)).length := by rw [encS_length]; exact hk
    have hr := g24_right h0 h h16 (hseal _ (List.getElem_mem hi)) hk
    rw [getD_of hke] at hr
    have hne : (((encS need all (sealB xs[i] key)).length : Int) != (all : Int)) = false := by rw [encS_length]; simp
    simp only [G4_2, dk, cond_true]
    rw [at_spread xs h16 hxs hi hk, Option.bind_some, d2, cond_false, guardT_pos (by omega), getElem?_toNat hil, Option.bind_some, el, hne, cond_false, guardT_pos (by omega), getElem?_toNat his, Option.bind_some, es,
      guardT_pos (by omega), Option.bind_some, guardT_pos (by omega), getElem?_toNat hke, Option.bind_some]
    rw [show ((((stripeS need all xs[i] key).1.1, (stripeS need all xs[i] key).1.2), ((stripeS need all xs[i] key).2.1, (stripeS need all xs[i] key).2.2)) : Stripe) = stripeS need all xs[i] key from rfl, hr, Option.bind_some]
    simp only [Option.bind_some, Bool.not_true, cond_false]
    exact loop3 xs h16 hxs hn hal hi hk _ _ _) (by
    have dk : decide ((all : Int) < (all : Int)) = false := by simp
    simp only [G4_2, dk, cond_false]
    rw [wrap_i64_succ (by omega)])
  exact this

include h0 h h16 hseal hxs hn hal hp2 in
theorem loop1 (c1 : Int) :
    loopO (G4_1 g23 g24 g25) ((0 : Int), ((xs.length : Int), (shardsOf need all key xs, (o, (n, (z, (stripesOf need all key xs, (spreadL ps all (xs.length * all), (c1, (all : Int)))))))))) = some true := by
  have hf := places_few (ps := ps) xs h16 hxs
  have := loopO_for (f := G4_1 g23 g24 g25) (fun i => ((i : Int), ((xs.length : Int), (shardsOf need all key xs, (o, (n, (z, (stripesOf need all key xs, (spreadL ps all (xs.length * all), (c1, (all : Int)))))))))) ) xs.length (r := true) (by
    intro i hi
    have di : decide ((i : Int) < (xs.length : Int)) = true := by simp only [decide_eq_true_eq]; omega
    simp only [G4_1, di, cond_true]
    exact loop2 xs h0 h h16 hseal hxs hn hal hp2 hi c1) (by
    have di : decide ((xs.length : Int) < (xs.length : Int)) = false := by simp
    simp only [G4_1, di, cond_false]
    rw [with_loop o n z _ (by omega) (by
      intro x hx
      simp only [spreadL, List.mem_map, List.mem_range] at hx
      obtain ⟨k, _, rfl⟩ := hx
      simp only [spreadP]
      rw [getD_of (Nat.mod_lt _ (by omega))]
      exact hp2 _ (List.getElem_mem _)), Option.bind_some])
  exact this
end

theorem partners_ok {v : Int} (h1 : 0 ≤ v) (h2 : v < 2) : List.take (Int.toNat (3 + v)) [(6 : Int), (2 : Int), (5 : Int), (3 : Int)] ∈ twiceL ∧ (∀ x ∈ List.take (Int.toNat (3 + v)) [(6 : Int), (2 : Int), (5 : Int), (3 : Int)], 2 ≤ x ∧ x < 7) ∧
    (List.take (Int.toNat (3 + v)) [(6 : Int), (2 : Int), (5 : Int), (3 : Int)]).any (strangeB 1) = false := by
  have : v = 0 ∨ v = 1 := by omega
  rcases this with rfl | rfl
  · exact ⟨by decide, by decide, by decide⟩
  · exact ⟨by decide, by decide, by decide⟩

theorem spreads_true (s : List Int) (hs : ∀ x ∈ s, 0 ≤ x ∧ x < 256) : g4 s = some true := by
  obtain ⟨d, e0, k0⟩ := new_ok hs
  obtain ⟨c, d1, e1, k1, x, y, x0, x1, y0, y1, rfl⟩ := code_ok k0
  obtain ⟨t, d2, e2, k2, hl⟩ := text_ok k1
  obtain ⟨v, d3, e3, k3, v0, v1, _⟩ := pick_ok k2 (n := 9) (by omega) (by omega)
  obtain ⟨w, d4, e4, k4, w0, w1, _⟩ := pick_ok k3 (n := 2) (by omega) (by omega)
  obtain ⟨need, hneed⟩ : ∃ need : Nat, 1 + x = need := ⟨(1 + x).toNat, by omega⟩
  obtain ⟨all, hall⟩ : ∃ all : Nat, 1 + x + y = all := ⟨(1 + x + y).toNat, by omega⟩
  obtain ⟨part, hpart⟩ : ∃ part : Nat, 4 + v = part := ⟨(4 + v).toNat, by omega⟩
  obtain ⟨m1, m2, m3⟩ := makeB_short (need := need) (all := all) (part := part) (key := 7) (owner := 1) (number := 2) (t := t) (by decide) (by decide) (by omega) (by omega) (by omega) (by omega) (by omega) (by omega)
  obtain ⟨p1, p2, p3⟩ := partners_ok w0 w1
  generalize hps : List.take (Int.toNat (3 + w)) [(6 : Int), (2 : Int), (5 : Int), (3 : Int)] = ps at p1 p2 p3
  obtain ⟨q1, q2, q3⟩ := twice_small p1
  generalize hxs : chunks part t (nOf part t.length) = xs at m1 m2 m3
  have hst : ∀ s ∈ stripesOf need all 7 xs, s.1.2 = (all : Int) := by
    intro s hs
    obtain ⟨x, _, rfl⟩ := List.mem_map.1 hs
    rfl
  have hst2 : ∀ s ∈ stripesOf need all 7 xs, StripeOk s := by
    intro s hs
    obtain ⟨x, hx, rfl⟩ := List.mem_map.1 hs
    exact stripeS_ok (by omega) (by omega) (by omega) (m2 x hx)
  have hsl : (stripesOf need all 7 xs).length = xs.length := by simp
  have W1 : Whole ((1, (2, ((t.length : Int), (stripesOf need all 7 xs, [])))) : Backup) := ⟨(by decide : headOk 1 2 = true), ⟨_, rfl⟩, by simpa using m3, hst2, by simp⟩
  have G22 := g22_eq (b := (1, (2, ((t.length : Int), (stripesOf need all 7 xs, []))))) W1 rfl (by simp) p1 p3 (by omega) hst
  simp only [hsl] at G22
  have W2 : Whole (backupOf 1 2 (t.length : Int) need all 7 ps xs) := ⟨(by decide : headOk 1 2 = true), ⟨_, rfl⟩, by simpa using m3, hst2, by
    have := places_few (ps := ps) xs (by omega : all ≤ 16) m3
    show (spreadL ps all (xs.length * all)).length < _; omega⟩
  have V2 : g21 (backupOf 1 2 (t.length : Int) need all 7 ps xs) = some true := by
    rw [g21_eq W2]
    have := spread_valid (owner := 1) (ss := stripesOf need all 7 xs) (twice_nodup p1) p3 (by omega : 1 ≤ all) (by omega) hst
    rw [hsl] at this
    exact congrArg some this
  have hmul : xs.length * all ≤ 16 * 16 := Nat.mul_le_mul m3 (by omega)
  simp only [g4, G4]
  rw [show g10 Unit.unit = some true from rfl, Option.bind_some]
  simp only [Bool.not_true, cond_false]
  rw [e0, Option.bind_some, show (d.1, d.2) = d from rfl, e1, Option.bind_some]
  simp only
  rw [show (d1.1, d1.2) = d1 from rfl, e2, Option.bind_some]
  simp only
  rw [show (d2.1, d2.2) = d2 from rfl, e3, Option.bind_some]
  simp only
  rw [wrap_i64 (x := 4 + v) (by omega) (by omega), hall, hneed, hpart, g17_eq _ _ _ _ _ _ _ (by omega), m1, Option.bind_some]
  simp only
  rw [show (d3.1, d3.2) = d3 from rfl, e4, Option.bind_some]
  simp only
  rw [wrap_i64 (x := 3 + w) (by omega) (by omega), guardT_pos (by omega), guardT_pos (by simp; omega), hps]
  rw [show g22g ((1, (2, ((t.length : Int), (stripesOf need all 7 xs, [])))), ps) = _ from G22, Option.bind_some]
  simp only [z00, cond_false]
  rw [show g21 (1, (2, ((t.length : Int), (stripesOf need all 7 xs, spreadL ps all (xs.length * all))))) = some true from V2, Option.bind_some]
  simp only [Bool.not_true, cond_false]
  have e5 : ((((spreadL ps all (xs.length * all)).length : Nat) : Int) != IntKind.wrap IntKind.i64 (((stripesOf need all 7 xs).length : Int) * (all : Int))) = false := by
    rw [spreadL_length, hsl, show ((xs.length : Int) * (all : Int)) = ((xs.length * all : Nat) : Int) by simp, wrap_nat (by omega)]; simp
  have e6 : (((shardsOf need all 7 xs).length : Int) != ((stripesOf need all 7 xs).length : Int)) = false := by simp
  rw [e5, cond_false, e6, Option.bind_some]
  simp only [cond_false]
  rw [show (((stripesOf need all 7 xs).length : Nat) : Int) = (xs.length : Int) by rw [hsl]]
  exact loop1 xs (by omega) (by omega) (by omega) m2 m3 (twice_nodup p1) (by omega) p2 _
end Go.Abs

/- BackupSpreads, called. -/
namespace Go.Abs
open Go Go.Proofs Go.RowKit
set_option maxRecDepth 100000

theorem lift4 (F : els [.sl (.int .u8)] → Option (els [.bool])) (l : List Int) (r : Bool) (h : F l = some r) : (S4 F).lift [.sl (l.map fun n => [PD.val (.int .u8 n)])] = some (.val (.bool r)) := by
  have e : decArgs (S4 F).args [.sl (l.map fun n => [PD.val (.int .u8 n)])] = some [⟨.sl (.int .u8), l⟩] := by
    simp only [S4, decArgs, SA.dec, decSl]
    rfl
  unfold PSpec.lift
  rw [e]
  have hp : pack (S4 F).ts [⟨.sl (.int .u8), l⟩] = some l := by kernel_rfl
  simp only [hp]
  have hF : (S4 F).F l = some r := h
  rw [hF]
  rfl
theorem spreads_calls (a : Option Addr) (len cap : Nat) (zs : List Int) (w : World) (hr : IsRow .u8 w a len cap zs) :
    Calls Tryz.prog 4 #[.slice a len cap] w fun e w' => e = .returned (.bool true) ∧ Below w.heap.size w w' := by
  have hF := spreads_true (zs.take len) hr.byte
  have hl := lift4 g4 (zs.take len) true hF
  refine (C4.2 _ (List.mem_singleton_self _) (fun b => b < w.heap.size) w _ [.slice a len cap] _ hl (fun _ h => h) ?_).mono ?_
  · have h1 := hr.rel
    simp only [VRels]
    exact ⟨_, _, rfl, h1, rfl⟩
  · rintro e w' ⟨x, rfl, hb, hx⟩
    simp only [VRel] at hx
    subst hx
    exact ⟨rfl, hb⟩
end Go.Abs
