import Derived.Test.YtghdinkgfpfdoaaGreatPb
import Derived.Test.YtghdinkgfpfdoaaGreatFc
/- Which backups are valid and equal; dice. -/
namespace Go.Abs
open Go Go.Proofs
set_option maxRecDepth 100000

/-! ### Valid stripes -/
theorem g113_eq {x : Int} (h0 : 0 ≤ x) (h : x < 2147483647) : g113 x = some false := by
  have d1 : decide (x < 0) = false := by simp; omega
  have d2 : decide (x ≥ 2147483647) = false := by simp; omega
  simp only [g113, G113, d1, d2, cond_false, Option.bind_some]
theorem g57s_eq {l : List Int} (hl : l.length < 2 ^ 60) (h : ∀ x ∈ l, 0 ≤ x ∧ x < 2147483647) : g57s l = some false := by
  have : g120s l = some (-1) := by
    have := loopO_for (f := G120s_1 g113) (fun k => ((k : Int), ((l.length : Int), l))) l.length (r := (-1 : Int)) (by
      intro k hk
      have dk : decide ((k : Int) < (l.length : Int)) = true := by simp; exact hk
      have hx := h _ (List.getElem_mem hk)
      simp only [G120s_1, dk, cond_true]
      rw [guardT_pos (by omega), getElem?_toNat hk, Option.bind_some, g113_eq hx.1 hx.2, Option.bind_some, cond_false, wrap_i64_succ (by omega)]) (by
      have dk : decide ((l.length : Int) < (l.length : Int)) = false := by simp
      simp only [G120s_1, dk, cond_false]; try rfl)
    exact this
  simp only [g57s, G57s, this, Option.bind_some]
  rfl

structure StripeOk (s : Stripe) : Prop where
  code : ∃ need all : Nat, s.1 = ((need : Int), (all : Int)) ∧ 1 ≤ need ∧ need ≤ all ∧ all ≤ 16 ∧ s.2.2.length = all ∧ ∃ L : Nat, s.2.1 = (L : Int) ∧ 2 ≤ L ∧ L ≤ need * 1024
  digs : ∀ x ∈ s.2.2, 0 ≤ x ∧ x < 2147483647
theorem StripeOk.check {s : Stripe} (h : StripeOk s) : g50 s = some 0 := by
  obtain ⟨⟨a, b⟩, ⟨size, ds⟩⟩ := s
  obtain ⟨⟨need, all, e, h0, h1, h16, hd, L, hL, hL2, hLm⟩, hds⟩ := h
  simp only at e hd hL hds
  cases e
  subst hL
  have hc : codeOk (need : Int) (all : Int) = true := codeOk_iff.2 ⟨by omega, by omega, by omega⟩
  have d1 : decide ((L : Int) < 2) = false := by simp; omega
  simp only [g50, G50]
  rw [g44_eq, hc, if_pos rfl, Option.bind_some, z00, cond_false, d1, cond_false, g112_eq h0 h1 h16 (by omega), Option.bind_some]
  simp only [lenR, if_pos hLm, z00, cond_false]
  have d2 : ((ds.length : Int) != (all : Int)) = false := by simp [hd]
  rw [d2, cond_false, g57s_eq (by omega) hds]
  rfl
theorem digs_range {l : List Shard} : ∀ x ∈ digs l, 0 ≤ x ∧ x < 2147483647 := by
  intro x hx
  simp only [digs, List.mem_map] at hx
  obtain ⟨y, _, rfl⟩ := hx
  exact sumB_range _
theorem stripeS_ok {need all : Nat} (h0 : 1 ≤ need) (h : need ≤ all) (h16 : all ≤ 16) {t : List UInt8} {k : Int} (hL : (sealB t k).length ≤ need * 1024) : StripeOk (stripeS need all t k) := {
  code := ⟨need, all, rfl, h0, h, h16, by simp [stripeS, digs, encS_length], _, rfl, (sealB_length t k).1, hL⟩
  digs := digs_range }
/-- A backup that was made, without places. -/
structure Made (b : Backup) : Prop where
  head : headOk b.1 b.2.1 = true
  size : ∃ n : Nat, b.2.2.1 = (n : Int)
  few : b.2.2.2.1.length ≤ 16
  each : ∀ s ∈ b.2.2.2.1, StripeOk s
  bare : b.2.2.2.2 = []
/-! ### Equal backups -/
theorem bne_refl {α : Type} [BEq α] [ReflBEq α] (a : α) : (a != a) = false := by simp [bne]
/-! ### Dice -/
structure DiceOk (d : List Int × Int) : Prop where
  each : ∀ x ∈ d.1, 0 ≤ x ∧ x < 256
  few : d.1.length ≤ 300
  at0 : 0 ≤ d.2
  at1 : d.2 ≤ 300
theorem pick_ok {d : List Int × Int} (h : DiceOk d) {n : Int} (h1 : 1 ≤ n) (h2 : n < 2 ^ 30) : ∃ (v : Int) (d' : List Int × Int), g12 (d, n) = some (v, d') ∧ DiceOk d' ∧ 0 ≤ v ∧ v < n ∧ v < 256 := by
  obtain ⟨l, i⟩ := d
  obtain ⟨he, hf, h0, hi⟩ := h
  simp only at he hf h0 hi
  simp only [g12, G12]
  by_cases hge : i ≥ (l.length : Int)
  · have d1 : decide (i ≥ (l.length : Int)) = true := by simp; omega
    rw [d1, cond_true]
    exact ⟨0, (l, i), rfl, ⟨he, hf, h0, hi⟩, by omega, by omega, by omega⟩
  · have d1 : decide (i ≥ (l.length : Int)) = false := by simp; omega
    obtain ⟨k, rfl⟩ : ∃ k : Nat, i = k := ⟨i.toNat, by omega⟩
    have hk : k < l.length := by omega
    have hx := he _ (List.getElem_mem hk)
    rw [d1, cond_false, wrap_i64_succ (by omega)]
    rw [show ((k + 1 : Nat) : Int) - 1 = (k : Int) by omega, wrap_nat (by omega), guardT_pos (by omega), getElem?_toNat hk, Option.bind_some, guardT_pos (by omega), wrap_i64 (by omega) (by omega)]
    refine ⟨_, _, rfl, ⟨he, hf, by simp only; omega, by simp only; omega⟩, ?_, ?_, ?_⟩
    · rw [Int.tmod_eq_emod_of_nonneg hx.1]; exact Int.emod_nonneg _ (by omega)
    · rw [Int.tmod_eq_emod_of_nonneg hx.1]; exact Int.emod_lt_of_pos _ (by omega)
    · rw [Int.tmod_eq_emod_of_nonneg hx.1]
      have h3 : l[k] % n ≤ l[k] := by
        rcases Int.lt_or_le l[k] n with h | h
        · rw [Int.emod_eq_of_lt hx.1 h]; exact Int.le_refl _
        · have := Int.emod_lt_of_pos l[k] (show 0 < n by omega); omega
      omega
theorem code_ok {d : List Int × Int} (h : DiceOk d) : ∃ (c : Int × Int) (d' : List Int × Int), g16 d = some (c, d') ∧ DiceOk d' ∧ ∃ x y : Int, 0 ≤ x ∧ x < 2 ∧ 0 ≤ y ∧ y < 2 ∧ c = (1 + x, 1 + x + y) := by
  obtain ⟨x, d1, e1, k1, a1, b1, _⟩ := pick_ok h (n := 2) (by omega) (by omega)
  obtain ⟨y, d2, e2, k2, a2, b2, _⟩ := pick_ok k1 (n := 2) (by omega) (by omega)
  refine ⟨(1 + x, 1 + x + y), d2, ?_, k2, x, y, a1, b1, a2, b2, rfl⟩
  simp only [g16, G16]
  rw [show (d.1, d.2) = d from rfl, e1, Option.bind_some]
  simp only
  rw [show (d1.1, d1.2) = d1 from rfl, e2, Option.bind_some, wrap_i64 (by omega) (by omega), wrap_i64 (by omega) (by omega)]
theorem text_loop : ∀ (n : Nat) (t : List UInt8) (d : List Int × Int), DiceOk d → n + t.length ≤ 300 → ∃ (t' : List UInt8) (d' : List Int × Int), loopO (G13_1 g12) ((n : Int), (t, d)) = some (t', d') ∧ DiceOk d' ∧ t'.length = t.length + n
  | 0, t, d, h, _ => by
    refine ⟨t, d, ?_, h, rfl⟩
    rw [loopO_eq]; rfl
  | n + 1, t, d, h, hl => by
    obtain ⟨x, d1, e1, k1, _, _, _⟩ := pick_ok h (n := 26) (by omega) (by omega)
    have dk : decide (((n + 1 : Nat) : Int) > 0) = true := by simp only [decide_eq_true_eq]; omega
    rw [loopO_eq]
    simp only [G13_1, dk, cond_true]
    rw [show (d.1, d.2) = d from rfl, e1, Option.bind_some, guardT_pos (by simp; omega), wrap_i64 (by omega) (by omega), show ((n + 1 : Nat) : Int) - 1 = (n : Int) by omega]
    obtain ⟨t', d', e, k, kl⟩ := text_loop n (t ++ List.map (fun x5 : Int => UInt8.ofNat x5.toNat) [IntKind.wrap .u8 (97 + IntKind.wrap .u8 x)]) d1 k1 (by simp; omega)
    exact ⟨t', d', e, k, by rw [kl]; simp; omega⟩
theorem text_ok {d : List Int × Int} (h : DiceOk d) : ∃ (t : List UInt8) (d' : List Int × Int), g13 d = some (t, d') ∧ DiceOk d' ∧ t.length < 30 := by
  obtain ⟨x, d1, e1, k1, a1, b1, _⟩ := pick_ok h (n := 30) (by omega) (by omega)
  obtain ⟨n, rfl⟩ : ∃ n : Nat, x = n := ⟨x.toNat, by omega⟩
  obtain ⟨t, d', e, k, kl⟩ := text_loop n [] d1 k1 (by simp; omega)
  refine ⟨t, d', ?_, k, by simp at kl; omega⟩
  simp only [g13, G13]
  rw [show (d.1, d.2) = d from rfl, e1, Option.bind_some]
  exact e
theorem new_ok {l : List Int} (h : ∀ x ∈ l, 0 ≤ x ∧ x < 256) : ∃ d : List Int × Int, g11 l = some d ∧ DiceOk d := by
  simp only [g11, G11]
  by_cases hl : (l.length : Int) > 300
  · have d1 : decide ((l.length : Int) > 300) = true := by simp; omega
    rw [d1, cond_true, guardT_pos (by omega)]
    exact ⟨_, rfl, fun x hx => h x (List.mem_of_mem_take hx), by simp; omega, by simp, by simp⟩
  · have d1 : decide ((l.length : Int) > 300) = false := by simp; omega
    rw [d1, cond_false]
    exact ⟨_, rfl, h, by simp; omega, by simp, by simp⟩
end Go.Abs

/- The law BackupMakes answers true: of functions alone. -/
namespace Go.Abs
open Go Go.Proofs
set_option maxRecDepth 100000

structure Small (r : Backup × (List (List Shard) × Int)) : Prop where
  stripes : r.1.2.2.2.1.length ≤ 16
  places : r.1.2.2.2.2 = []
  digs : ∀ s ∈ r.1.2.2.2.1, s.2.2.length ≤ 16
  shards : r.2.1.length ≤ 16
  each : ∀ x ∈ r.2.1, x.length ≤ 16
section
variable (owner number key part c1 c2 : Int) (texts : List (List UInt8))
abbrev Dice := List Int × Int
abbrev W1 := List (List UInt8) × (Int × (Int × (Int × (Int × (Int × (Int × (List Int × (Int × (Int × Int)))))))))
abbrev W2 := List Int × (List (List UInt8) × (Int × (Int × (Int × (Int × (List UInt8 × (Int × (Int × (Int × (Int × (List Int × (Int × (Int × Int)))))))))))))
variable {texts}
end

end Go.Abs

/- BackupMakes, called. -/
namespace Go.Abs
open Go Go.Proofs Go.RowKit
set_option maxRecDepth 100000

/-- A slice of numbers, as its cells read. -/
def IsRow (k : IntKind) (w : World) (a : Option Addr) (len cap : Nat) (zs : List Int) : Prop :=
  (a = none ∧ len = 0 ∧ cap = 0 ∧ zs = []) ∨
  ∃ x, a = some x ∧ len ≤ cap ∧ cap ≤ maxLen ∧ zs.length = cap ∧ (∀ i, i < zs.length → w.cell? (x.add i) = some (.int k (zs.getD i 0))) ∧ ∀ n ∈ zs, (Lit.int k n).wf = true

theorem rows_of_cells {I : Nat → Prop} {w : World} {b : Nat} {k : IntKind} : ∀ (ns : List Int) (off : Nat), (∀ i, i < ns.length → World.cellAt w b (off + i) = some (.int k (ns.getD i 0))) → VRows I w b off 1 (ns.map fun n => [PD.val (.int k n)])
  | [], _, _ => by simp only [List.map_nil, VRows]
  | n :: ns, off, h => by
    simp only [List.map_cons, VRows, VAt]
    refine ⟨rfl, ⟨⟨.int k n, ?_, rfl, by simp only [VRel]⟩, trivial⟩, rows_of_cells ns (off + 1) fun i hi => ?_⟩
    · have := h 0 (by simp)
      simpa using this
    · have := h (i + 1) (by simp; omega)
      rw [show off + 1 + i = off + (i + 1) by omega, this]
      simp
theorem IsRow.rel {k : IntKind} {w : World} {a : Option Addr} {len cap : Nat} {zs : List Int} (h : IsRow k w a len cap zs) :
    VRel (fun b => b < w.heap.size) w (.sl ((zs.take len).map fun n => [PD.val (.int k n)])) (.slice a len cap) := by
  rcases h with ⟨rfl, rfl, rfl, rfl⟩ | ⟨x, rfl, hl, hm, hz, hc, _⟩
  · simp only [VRel]
    exact ⟨none, 0, rfl, Nat.le_refl _, by simp [maxLen], .inl rfl⟩
  · simp only [VRel]
    have hlen : (((zs.take len).map fun n => [PD.val (.int k n)]) : List (List PD)).length = len := by simp; omega
    rw [hlen]
    refine ⟨some x, cap, rfl, hl, hm, ?_⟩
    by_cases h0 : len = 0
    · left; subst h0; simp
    · right
      have hc0 := hc 0 (by omega)
      obtain ⟨xb, xo, xs⟩ := x
      have hsp : xs = none := by
        cases xs with
        | none => rfl
        | some s =>
          simp only [World.cell?, Addr.add] at hc0
          split at hc0
          · simp at hc0
          · cases hc0
      subst hsp
      refine ⟨xb, xo, 1, rfl, ?_, rows_of_cells _ _ fun i hi => ?_⟩
      · simp only [World.cell?, Addr.add] at hc0
        split at hc0
        · rename_i e; exact lt_of_cells e
        · cases hc0
      · simp only [List.length_take] at hi
        have := hc i (by omega)
        have ea : (⟨xb, xo, none⟩ : Addr).add i = ⟨xb, xo + i, none⟩ := by
          simp only [Addr.add]
          split
          · rename_i e; subst e; rfl
          · rfl
        rw [ea] at this
        rw [World.cellAt, this]
        have h1 : i < len := by omega
        have h2 : i < zs.length := by omega
        simp [List.getD_eq_getElem?_getD, h1, h2]
theorem IsRow.byte {w : World} {a : Option Addr} {len cap : Nat} {zs : List Int} (h : IsRow .u8 w a len cap zs) : ∀ x ∈ zs.take len, 0 ≤ x ∧ x < 256 := by
  intro x hx
  rcases h with ⟨_, _, _, rfl⟩ | ⟨_, _, _, _, _, _, hw⟩
  · simp at hx
  · have := hw x (List.mem_of_mem_take hx)
    simp only [Lit.wf, Bool.and_eq_true, decide_eq_true_eq, IntKind.min, IntKind.max] at this
    have h1 := this.1
    have h2 := this.2
    simp [IntKind.bits, IntKind.signed] at h1 h2
    omega

theorem decSl {k : IntKind} (l : List Int) : (SK.leaf (.sl (.int k))).dec (.sl (l.map fun n => [PD.val (.int k n)])) = some l := by
  exact decAll (τ := .sl (.int k)) rfl l
end Go.Abs
