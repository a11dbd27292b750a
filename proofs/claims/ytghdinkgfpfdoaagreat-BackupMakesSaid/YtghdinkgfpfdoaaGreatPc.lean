import Derived.Test.YtghdinkgfpfdoaaGreatPb
import Derived.Test.YtghdinkgfpfdoaaGreatFc
/- Which backups are valid and equal; dice. -/
namespace Go.Abs
open Go Go.Proofs
set_option maxRecDepth 100000

/-! ### Valid stripes -/
theorem g113_eq {x : Int} (h0 : 0 ≤ x) (h : x < 2147483647) : g113 x = some false := by
  have d1 : decide (x < 0) = false := by simp; omega
  have d2 : decide (x ≥ 2147483647) = false := by simp; omega
  simp only [g113, G113, d1, d2, cond_false, Option.bind_some]
theorem g57s_eq {l : List Int} (hl : l.length < 2 ^ 60) (h : ∀ x ∈ l, 0 ≤ x ∧ x < 2147483647) : g57s l = some false := by
  have : g120s l = some (-1) := by
    have := loopO_for (f := G120s_1 g113) (fun k => ((k : Int), ((l.length : Int), l))) l.length (r := (-1 : Int)) (by
      intro k hk
      have dk : decide ((k : Int) < (l.length : Int)) = true := by simp; exact hk
      have hx := h _ (List.getElem_mem hk)
      simp only [G120s_1, dk, cond_true]
      rw [guardT_pos (by omega), getElem?_toNat hk, Option.bind_some, g113_eq hx.1 hx.2, Option.bind_some, cond_false, wrap_i64_succ (by omega)]) (by
      have dk : decide ((l.length : Int) < (l.length : Int)) = false := by simp
      simp only [G120s_1, dk, cond_false]; try rfl)
    exact this
  simp only [g57s, G57s, this, Option.bind_some]
  rfl

structure StripeOk (s : Stripe) : Prop where
  code : ∃ need all : Nat, s.1 = ((need : Int), (all : Int)) ∧ 1 ≤ need ∧ need ≤ all ∧ all ≤ 16 ∧ s.2.2.length = all ∧ ∃ L : Nat, s.2.1 = (L : Int) ∧ 2 ≤ L ∧ L ≤ need * 1024
  digs : ∀ x ∈ s.2.2, 0 ≤ x ∧ x < 2147483647
theorem StripeOk.check {s : Stripe} (h : StripeOk s) : g50 s = some 0 := by
  obtain ⟨⟨a, b⟩, ⟨size, ds⟩⟩ := s
  obtain ⟨⟨need, all, e, h0, h1, h16, hd, L, hL, hL2, hLm⟩, hds⟩ := h
  simp only at e hd hL hds
  cases e
  subst hL
  have hc : codeOk (need : Int) (all : Int) = true := codeOk_iff.2 ⟨by omega, by omega, by omega⟩
  have d1 : decide ((L : Int) < 2) = false := by simp; omega
  simp only [g50, G50]
  rw [g44_eq, hc, if_pos rfl, Option.bind_some, z00, cond_false, d1, cond_false, g112_eq h0 h1 h16 (by omega), Option.bind_some]
  simp only [lenR, if_pos hLm, z00, cond_false]
  have d2 : ((ds.length : Int) != (all : Int)) = false := by simp [hd]
  rw [d2, cond_false, g57s_eq (by omega) hds]
  rfl
theorem digs_range {l : List Shard} : ∀ x ∈ digs l, 0 ≤ x ∧ x < 2147483647 := by
  intro x hx
  simp only [digs, List.mem_map] at hx
  obtain ⟨y, _, rfl⟩ := hx
  exact sumB_range _
theorem stripeS_ok {need all : Nat} (h0 : 1 ≤ need) (h : need ≤ all) (h16 : all ≤ 16) {t : List UInt8} {k : Int} (hL : (sealB t k).length ≤ need * 1024) : StripeOk (stripeS need all t k) := {
  code := ⟨need, all, rfl, h0, h, h16, by simp [stripeS, digs, encS_length], _, rfl, (sealB_length t k).1, hL⟩
  digs := digs_range }
theorem makeS_ok {need all : Nat} (h0 : 1 ≤ need) (h : need ≤ all) (h16 : all ≤ 16) {t : List UInt8} {k : Int} (he : (makeS need all t k).2.2 = 0) : StripeOk (makeS need all t k).1 := by
  unfold makeS at he ⊢
  split at he
  · cases he
  split at he
  · rename_i h1 h2
    rw [if_neg h1, if_pos h2]
    exact stripeS_ok h0 h h16 h2
  · cases he
theorem makeL_ok {need all : Nat} (h0 : 1 ≤ need) (h : need ≤ all) (h16 : all ≤ 16) (key : Int) : ∀ (l : List (List UInt8)) (a : List Stripe) (b : List (List Shard)), (makeL need all key l a b).2.2 = 0 → (∀ s ∈ a, StripeOk s) → a.length = b.length →
    (∀ s ∈ (makeL need all key l a b).1, StripeOk s) ∧ (makeL need all key l a b).1.length = a.length + l.length ∧ (makeL need all key l a b).2.1.length = a.length + l.length
  | [], a, b, _, ha, hab => ⟨ha, by simp [makeL], by simp [makeL, hab]⟩
  | x :: l, a, b, he, ha, hab => by
    rw [makeL] at he ⊢
    by_cases h2 : (makeS need all x key).2.2 ≠ 0
    · rw [if_pos h2] at he; exact (h2 he).elim
    · rw [if_neg h2] at he ⊢
      have hs : (makeS need all x key).2.2 = 0 := by simpa using h2
      obtain ⟨k1, k2, k3⟩ := makeL_ok h0 h h16 key l _ _ he (fun s hm => by
        rcases List.mem_append.1 hm with hm | hm
        · exact ha s hm
        · rw [List.mem_singleton.1 hm]; exact makeS_ok h0 h h16 hs) (by simp [hab])
      refine ⟨k1, by rw [k2]; simp; omega, by rw [k3]; simp; omega⟩

/-- A backup that was made, without places. -/
structure Made (b : Backup) : Prop where
  head : headOk b.1 b.2.1 = true
  size : ∃ n : Nat, b.2.2.1 = (n : Int)
  few : b.2.2.2.1.length ≤ 16
  each : ∀ s ∈ b.2.2.2.1, StripeOk s
  bare : b.2.2.2.2 = []
theorem makeB_ok {owner number : Int} {t : List UInt8} {a b key part : Int} (he : (makeB owner number t a b key part).2.2 = 0) :
    Made (makeB owner number t a b key part).1 ∧ (makeB owner number t a b key part).2.1.length = (makeB owner number t a b key part).1.2.2.2.1.length := by
  unfold makeB at he ⊢
  split at he
  · cases he
  rename_i h1
  split at he
  · cases he
  rename_i h2
  split at he
  · rename_i h3; exact (h3 he).elim
  rename_i h3
  rw [if_neg h1, if_neg h2, if_neg h3]
  have h3 : (cutR t part).2 = 0 := by simpa using h3
  have h1 : headOk owner number = true := by simpa using h1
  have h2 : codeOk a b = true := by simpa using h2
  obtain ⟨c1, c2, c3⟩ := codeOk_iff.1 h2
  unfold endM at he ⊢
  split at he
  · rename_i h4; exact (h4 he).elim
  rename_i h4
  rw [if_neg h4]
  have h4 : (makeL a.toNat b.toNat key (cutR t part).1 [] []).2.2 = 0 := by simpa using h4
  obtain ⟨k1, k2, k3⟩ := makeL_ok (by omega) (by omega) (by omega) key _ [] [] h4 (by simp) rfl
  obtain ⟨f1, _⟩ := cutR_facts h3
  simp only [List.length_nil, Nat.zero_add] at k2 k3
  exact ⟨⟨h1, ⟨_, rfl⟩, by simp only; omega, k1, rfl⟩, by simp only; omega⟩

theorem valid_made {b : Backup} (h : Made b) : g21 b = some true := by
  obtain ⟨owner, number, size, ss, ps⟩ := b
  obtain ⟨hh, ⟨n, hn⟩, hf, he, hb⟩ := h
  simp only at hh hn hf he hb
  subst hn; subst hb
  simp only [headOk, Bool.and_eq_true, decide_eq_true_eq] at hh
  have d1 : decide (number < 1) = false := by simp; omega
  have d2 : decide (number > 1048576) = false := by simp; omega
  have d3 : decide ((n : Int) < 0) = false := by simp
  have d4 : decide ((ss.length : Int) > 16) = false := by simp; omega
  simp only [g21, G21]
  rw [g43_eq, hh.1, Option.bind_some]
  simp only [Bool.not_true, cond_false, d1, d2, d3, d4, Option.bind_some]
  have := loopO_for (f := G21_1 g43 g50 g51 g52 g53) (fun k => ((k : Int), ((ss.length : Int), (ss, (owner, (number, ((n : Int), (ss, [])))))))) ss.length (r := true) (by
    intro k hk
    have dk : decide ((k : Int) < (ss.length : Int)) = true := by simp; exact hk
    simp only [G21_1, dk, cond_true]
    rw [guardT_pos (by omega), getElem?_toNat hk, Option.bind_some, (he _ (List.getElem_mem hk)).check, Option.bind_some, z00, cond_false, wrap_i64_succ (by omega)]) (by
    have dk : decide ((ss.length : Int) < (ss.length : Int)) = false := by simp
    simp only [G21_1, dk, cond_false]
    rw [loopO_eq]
    rfl)
  exact this

/-! ### Equal backups -/
theorem bne_refl {α : Type} [BEq α] [ReflBEq α] (a : α) : (a != a) = false := by simp [bne]
theorem g48_refl {l : List Place} (hl : l.length < 2 ^ 60) : g48 (l, l) = some true := by
  simp only [g48, G48, bne_refl, cond_false]
  exact loopO_for (f := G48_1) (fun k => ((k : Int), (l, l))) l.length (r := true) (by
    intro k hk
    have dk : decide ((k : Int) < (l.length : Int)) = true := by simp; exact hk
    simp only [G48_1, dk, cond_true]
    rw [guardT_pos (by omega), getElem?_toNat hk, Option.bind_some, guardT_pos (by omega), Option.bind_some, wrap_i64_succ (by omega)]
    simp) (by
    have dk : decide ((l.length : Int) < (l.length : Int)) = false := by simp
    simp only [G48_1, dk, cond_false])
theorem g111_refl {l : List Int} (hl : l.length < 2 ^ 60) : g111 (l, l) = some true := by
  simp only [g111, G111, bne_refl, cond_false]
  exact loopO_for (f := G111_1) (fun k => ((k : Int), ((l.length : Int), (l, l)))) l.length (r := true) (by
    intro k hk
    have dk : decide ((k : Int) < (l.length : Int)) = true := by simp; exact hk
    simp only [G111_1, dk, cond_true]
    rw [guardT_pos (by omega), getElem?_toNat hk, Option.bind_some, guardT_pos (by omega), Option.bind_some, bne_refl, cond_false, wrap_i64_succ (by omega)]) (by
    have dk : decide ((l.length : Int) < (l.length : Int)) = false := by simp
    simp only [G111_1, dk, cond_false])
theorem g49_refl {s : Stripe} (hl : s.2.2.length < 2 ^ 60) : g49 (s, s) = some true := by
  simp [g49, G49, g111_refl hl]
theorem g19_refl {b : Backup} (h1 : b.2.2.2.1.length < 2 ^ 60) (h2 : b.2.2.2.2.length < 2 ^ 60) (h3 : ∀ s ∈ b.2.2.2.1, s.2.2.length < 2 ^ 60) : g19 (b, b) = some true := by
  obtain ⟨owner, number, size, ss, ps⟩ := b
  simp only at h1 h2 h3
  simp only [g19, G19, bne_refl, cond_false]
  rw [g48_refl h2]
  simp only [Option.bind_some, Bool.not_true, cond_false]
  exact loopO_for (f := G19_1 g49) (fun k => ((k : Int), (owner, (number, (size, (ss, (ps, (owner, (number, (size, (ss, ps))))))))))) ss.length (r := true) (by
    intro k hk
    have dk : decide ((k : Int) < (ss.length : Int)) = true := by simp; exact hk
    simp only [G19_1, dk, cond_true]
    rw [guardT_pos (by omega), getElem?_toNat hk, Option.bind_some, guardT_pos (by omega), Option.bind_some]
    rw [g49_refl (s := ss[k]) (h3 _ (List.getElem_mem hk)), Option.bind_some, wrap_i64_succ (by omega)]
    rfl) (by
    have dk : decide ((ss.length : Int) < (ss.length : Int)) = false := by simp
    simp only [G19_1, dk, cond_false])
theorem g20_refl {l : List (List Shard)} (h1 : l.length < 2 ^ 60) (h2 : ∀ x ∈ l, x.length < 2 ^ 60) : g20 (l, l) = some true := by
  simp only [g20, G20, bne_refl, cond_false]
  exact loopO_for (f := G20_1) (fun k => ((k : Int), (l, l))) l.length (r := true) (by
    intro k hk
    have dk : decide ((k : Int) < (l.length : Int)) = true := by simp; exact hk
    have hx := h2 _ (List.getElem_mem hk)
    simp only [G20_1, dk, cond_true]
    rw [guardT_pos (by omega), getElem?_toNat hk, Option.bind_some, guardT_pos (by omega), Option.bind_some, bne_refl, cond_false]
    exact loopO_for (f := G20_2) (fun i => ((i : Int), ((k : Int), (l, l)))) l[k].length (r := Sum.inl (((k + 1 : Nat) : Int), (l, l))) (by
      intro i hi
      have di : decide ((i : Int) < (l[k].length : Int)) = true := by simp; exact hi
      simp only [G20_2]
      rw [guardT_pos (by omega), getElem?_toNat hk, Option.bind_some, di, cond_true, guardT_pos (by omega), Option.bind_some, guardT_pos (by omega), getElem?_toNat hi, Option.bind_some, guardT_pos (by omega), Option.bind_some,
        guardT_pos (by omega), getElem?_toNat hi, Option.bind_some, wrap_i64_succ (by omega)]
      simp) (by
      have di : decide ((l[k].length : Int) < (l[k].length : Int)) = false := by simp
      simp only [G20_2]
      rw [guardT_pos (by omega), getElem?_toNat hk, Option.bind_some, di, cond_false, wrap_i64_succ (by omega)])) (by
    have dk : decide ((l.length : Int) < (l.length : Int)) = false := by simp
    simp only [G20_1, dk, cond_false])

/-! ### Dice -/
structure DiceOk (d : List Int × Int) : Prop where
  each : ∀ x ∈ d.1, 0 ≤ x ∧ x < 256
  few : d.1.length ≤ 300
  at0 : 0 ≤ d.2
  at1 : d.2 ≤ 300
theorem pick_ok {d : List Int × Int} (h : DiceOk d) {n : Int} (h1 : 1 ≤ n) (h2 : n < 2 ^ 30) : ∃ (v : Int) (d' : List Int × Int), g12 (d, n) = some (v, d') ∧ DiceOk d' ∧ 0 ≤ v ∧ v < n ∧ v < 256 := by
  obtain ⟨l, i⟩ := d
  obtain ⟨he, hf, h0, hi⟩ := h
  simp only at he hf h0 hi
  simp only [g12, G12]
  by_cases hge : i ≥ (l.length : Int)
  · have d1 : decide (i ≥ (l.length : Int)) = true := by simp; omega
    rw [d1, cond_true]
    exact ⟨0, (l, i), rfl, ⟨he, hf, h0, hi⟩, by omega, by omega, by omega⟩
  · have d1 : decide (i ≥ (l.length : Int)) = false := by simp; omega
    obtain ⟨k, rfl⟩ : ∃ k : Nat, i = k := ⟨i.toNat, by omega⟩
    have hk : k < l.length := by omega
    have hx := he _ (List.getElem_mem hk)
    rw [d1, cond_false, wrap_i64_succ (by omega)]
    rw [show ((k + 1 : Nat) : Int) - 1 = (k : Int) by omega, wrap_nat (by omega), guardT_pos (by omega), getElem?_toNat hk, Option.bind_some, guardT_pos (by omega), wrap_i64 (by omega) (by omega)]
    refine ⟨_, _, rfl, ⟨he, hf, by simp only; omega, by simp only; omega⟩, ?_, ?_, ?_⟩
    · rw [Int.tmod_eq_emod_of_nonneg hx.1]; exact Int.emod_nonneg _ (by omega)
    · rw [Int.tmod_eq_emod_of_nonneg hx.1]; exact Int.emod_lt_of_pos _ (by omega)
    · rw [Int.tmod_eq_emod_of_nonneg hx.1]
      have h3 : l[k] % n ≤ l[k] := by
        rcases Int.lt_or_le l[k] n with h | h
        · rw [Int.emod_eq_of_lt hx.1 h]; exact Int.le_refl _
        · have := Int.emod_lt_of_pos l[k] (show 0 < n by omega); omega
      omega
theorem code_ok {d : List Int × Int} (h : DiceOk d) : ∃ (c : Int × Int) (d' : List Int × Int), g16 d = some (c, d') ∧ DiceOk d' ∧ ∃ x y : Int, 0 ≤ x ∧ x < 2 ∧ 0 ≤ y ∧ y < 2 ∧ c = (1 + x, 1 + x + y) := by
  obtain ⟨x, d1, e1, k1, a1, b1, _⟩ := pick_ok h (n := 2) (by omega) (by omega)
  obtain ⟨y, d2, e2, k2, a2, b2, _⟩ := pick_ok k1 (n := 2) (by omega) (by omega)
  refine ⟨(1 + x, 1 + x + y), d2, ?_, k2, x, y, a1, b1, a2, b2, rfl⟩
  simp only [g16, G16]
  rw [show (d.1, d.2) = d from rfl, e1, Option.bind_some]
  simp only
  rw [show (d1.1, d1.2) = d1 from rfl, e2, Option.bind_some, wrap_i64 (by omega) (by omega), wrap_i64 (by omega) (by omega)]
theorem text_loop : ∀ (n : Nat) (t : List UInt8) (d : List Int × Int), DiceOk d → n + t.length ≤ 300 → ∃ (t' : List UInt8) (d' : List Int × Int), loopO (G13_1 g12) ((n : Int), (t, d)) = some (t', d') ∧ DiceOk d' ∧ t'.length = t.length + n
  | 0, t, d, h, _ => by
    refine ⟨t, d, ?_, h, rfl⟩
    rw [loopO_eq]; rfl
  | n + 1, t, d, h, hl => by
    obtain ⟨x, d1, e1, k1, _, _, _⟩ := pick_ok h (n := 26) (by omega) (by omega)
    have dk : decide (((n + 1 : Nat) : Int) > 0) = true := by simp only [decide_eq_true_eq]; omega
    rw [loopO_eq]
    simp only [G13_1, dk, cond_true]
    rw [show (d.1, d.2) = d from rfl, e1, Option.bind_some, guardT_pos (by simp; omega), wrap_i64 (by omega) (by omega), show ((n + 1 : Nat) : Int) - 1 = (n : Int) by omega]
    obtain ⟨t', d', e, k, kl⟩ := text_loop n (t ++ List.map (fun x5 : Int => UInt8.ofNat x5.toNat) [IntKind.wrap .u8 (97 + IntKind.wrap .u8 x)]) d1 k1 (by simp; omega)
    exact ⟨t', d', e, k, by rw [kl]; simp; omega⟩
theorem text_ok {d : List Int × Int} (h : DiceOk d) : ∃ (t : List UInt8) (d' : List Int × Int), g13 d = some (t, d') ∧ DiceOk d' ∧ t.length < 30 := by
  obtain ⟨x, d1, e1, k1, a1, b1, _⟩ := pick_ok h (n := 30) (by omega) (by omega)
  obtain ⟨n, rfl⟩ : ∃ n : Nat, x = n := ⟨x.toNat, by omega⟩
  obtain ⟨t, d', e, k, kl⟩ := text_loop n [] d1 k1 (by simp; omega)
  refine ⟨t, d', ?_, k, by simp at kl; omega⟩
  simp only [g13, G13]
  rw [show (d.1, d.2) = d from rfl, e1, Option.bind_some]
  exact e
theorem new_ok {l : List Int} (h : ∀ x ∈ l, 0 ≤ x ∧ x < 256) : ∃ d : List Int × Int, g11 l = some d ∧ DiceOk d := by
  simp only [g11, G11]
  by_cases hl : (l.length : Int) > 300
  · have d1 : decide ((l.length : Int) > 300) = true := by simp; omega
    rw [d1, cond_true, guardT_pos (by omega)]
    exact ⟨_, rfl, fun x hx => h x (List.mem_of_mem_take hx), by simp; omega, by simp, by simp⟩
  · have d1 : decide ((l.length : Int) > 300) = false := by simp; omega
    rw [d1, cond_false]
    exact ⟨_, rfl, h, by simp; omega, by simp, by simp⟩
end Go.Abs

/- The law BackupMakes answers true: of functions alone. -/
namespace Go.Abs
open Go Go.Proofs
set_option maxRecDepth 100000

theorem loopO_dice {S R : Type} {f : S → Option (S ⊕ R)} (st : Nat → (List Int × Int) → S) (n : Nat) (Post : R → Prop)
    (step : ∀ k d, k < n → DiceOk d → ∃ d', DiceOk d' ∧ f (st k d) = some (.inl (st (k + 1) d'))) (fin : ∀ d, DiceOk d → ∃ r, f (st n d) = some (.inr r) ∧ Post r) :
    ∀ (m k : Nat) (d : List Int × Int), k + m = n → DiceOk d → ∃ r, loopO f (st k d) = some r ∧ Post r
  | 0, k, d, hk, hd => by
    have : k = n := by omega
    subst this
    obtain ⟨r, e, h⟩ := fin d hd
    exact ⟨r, loopO_end e, h⟩
  | m + 1, k, d, hk, hd => by
    obtain ⟨d', h', e⟩ := step k d (by omega) hd
    rw [loopO_eq, e]
    exact loopO_dice st n Post step fin m (k + 1) d' (by omega) h'

theorem makeS_small {need all : Nat} (h16 : all ≤ 16) (t : List UInt8) (k : Int) : (makeS need all t k).2.1.length ≤ 16 ∧ (makeS need all t k).1.2.2.length ≤ 16 := by
  unfold makeS
  split
  · simp
  · split
    · simp [stripeS, digs, encS_length, h16]
    · simp
theorem makeL_small {need all : Nat} (h16 : all ≤ 16) (key : Int) : ∀ (l : List (List UInt8)) (a : List Stripe) (b : List (List Shard)), (∀ s ∈ a, s.2.2.length ≤ 16) → (∀ x ∈ b, x.length ≤ 16) →
    (∀ s ∈ (makeL need all key l a b).1, s.2.2.length ≤ 16) ∧ (∀ x ∈ (makeL need all key l a b).2.1, x.length ≤ 16) ∧ (makeL need all key l a b).1.length ≤ a.length + l.length ∧ (makeL need all key l a b).2.1.length ≤ b.length + l.length
  | [], a, b, ha, hb => ⟨ha, hb, by simp [makeL], by simp [makeL]⟩
  | x :: l, a, b, ha, hb => by
    rw [makeL]
    split
    · exact ⟨by simp, by simp, by simp, by simp⟩
    · have hs := makeS_small (need := need) h16 x key
      obtain ⟨k1, k2, k3, k4⟩ := makeL_small h16 key l (a ++ [(makeS need all x key).1]) (b ++ [(makeS need all x key).2.1]) (fun s hm => by
        rcases List.mem_append.1 hm with hm | hm
        · exact ha s hm
        · rw [List.mem_singleton.1 hm]; exact hs.2) (fun s hm => by
        rcases List.mem_append.1 hm with hm | hm
        · exact hb s hm
        · rw [List.mem_singleton.1 hm]; exact hs.1)
      simp only [List.length_append, List.length_cons, List.length_nil] at k3 k4 ⊢
      exact ⟨k1, k2, by omega, by omega⟩
theorem cutR_len (t : List UInt8) (p : Int) : (cutR t p).1.length ≤ 16 := by
  by_cases h : (cutR t p).2 = 0
  · exact (cutR_facts h).1
  · unfold cutR at h ⊢
    split
    · simp
    · split
      · simp
      · rename_i h1 h2; rw [if_neg h1, if_neg h2] at h; exact (h rfl).elim
structure Small (r : Backup × (List (List Shard) × Int)) : Prop where
  stripes : r.1.2.2.2.1.length ≤ 16
  places : r.1.2.2.2.2 = []
  digs : ∀ s ∈ r.1.2.2.2.1, s.2.2.length ≤ 16
  shards : r.2.1.length ≤ 16
  each : ∀ x ∈ r.2.1, x.length ≤ 16
theorem small_zero (e : Int) : Small (zeroB, ([], e)) := ⟨by simp [zeroB], rfl, by simp [zeroB], by simp, by simp⟩
theorem makeB_small (owner number : Int) (t : List UInt8) (a b key part : Int) : Small (makeB owner number t a b key part) := by
  unfold makeB
  split
  · exact small_zero 1
  split
  · exact small_zero 1
  rename_i hc
  split
  · exact small_zero _
  have hc : codeOk a b = true := by simpa using hc
  obtain ⟨c1, c2, c3⟩ := codeOk_iff.1 hc
  unfold endM
  split
  · exact small_zero _
  · obtain ⟨k1, k2, k3, k4⟩ := makeL_small (need := a.toNat) (all := b.toNat) (by omega) key (cutR t part).1 [] [] (by simp) (by simp)
    have := cutR_len t part
    simp only [List.length_nil, Nat.zero_add] at k3 k4
    exact ⟨by simp only; omega, rfl, k1, by simp only; omega, k2⟩
theorem same_make {r : Backup × (List (List Shard) × Int)} (h : Small r) : g19 (r.1, r.1) = some true ∧ g20 (r.2.1, r.2.1) = some true :=
  ⟨g19_refl (by have := h.stripes; omega) (by rw [h.places]; simp) (fun s hs => by have := h.digs s hs; omega), g20_refl (by have := h.shards; omega) (fun x hx => by have := h.each x hx; omega)⟩

section
variable (owner number key part c1 c2 : Int) (texts : List (List UInt8))
abbrev Dice := List Int × Int
abbrev S1 := List (List UInt8) × (Int × (Int × (Int × (Int × (Int × (Int × (List Int × (Int × (Int × Int)))))))))
def st1 (i : Nat) (d : Dice) : S1 := (texts, ((i : Int), ((4 : Int), (part, (key, (number, (owner, (d.1, (d.2, (c1, c2))))))))))
abbrev S2 := List Int × (List (List UInt8) × (Int × (Int × (Int × (Int × (List UInt8 × (Int × (Int × (Int × (Int × (List Int × (Int × (Int × Int)))))))))))))
def st2 (ps : List Int) (t : List UInt8) (i1 : Nat) (i : Nat) (d : Dice) : S2 := (ps, (texts, ((i : Int), ((6 : Int), ((i1 : Int), ((4 : Int), (t, (part, (key, (number, (owner, (d.1, (d.2, (c1, c2))))))))))))))
abbrev S4 := List Int × (List Int × (List (List UInt8) × (Int × (Int × (Int × (Int × (Int × (Int × (Int × (List UInt8 × (Int × (Int × (Int × (Int × (List Int × (Int × (Int × Int)))))))))))))))))
def st4 (ks ps : List Int) (t : List UInt8) (i1 i2 : Nat) (p : Int) (i : Nat) (d : Dice) : S4 :=
  (ks, (ps, (texts, ((i : Int), ((2 : Int), ((i2 : Int), ((6 : Int), ((i1 : Int), ((4 : Int), (p, (t, (part, (key, (number, (owner, (d.1, (d.2, (c1, c2))))))))))))))))))
abbrev S5 := List (Int × Int) × (List Int × (List Int × (List (List UInt8) × (Int × (Int × (Int × (Int × (Int × (Int × (Int × (Int × (Int × (Int × (List UInt8 × (Int × (Int × (Int × (Int × (List Int × (Int × (Int × Int)))))))))))))))))))))
def st5 (cs : List (Int × Int)) (ks ps : List Int) (t : List UInt8) (i1 i2 : Nat) (p : Int) (i4 : Nat) (k : Int) (i : Nat) (d : Dice) : S5 :=
  (cs, (ks, (ps, (texts, ((i : Int), ((2 : Int), ((i4 : Int), ((2 : Int), ((i2 : Int), ((6 : Int), ((i1 : Int), ((4 : Int), (k, (p, (t, (part, (key, (number, (owner, (d.1, (d.2, (c1, c2))))))))))))))))))))))

variable {texts}
theorem step5 {cs : List (Int × Int)} (hcs : cs.length = 2) {ks ps : List Int} {t : List UInt8} (ht : t.length ≤ 2 ^ 30) {i1 i2 i4 : Nat} (hi4 : i4 < 100) {p k : Int} (d : Dice) (hd : DiceOk d) :
    ∃ r, loopO (G3_5 g12 g17 g18 g19 g20 g21) (st5 owner number key part c1 c2 texts cs ks ps t i1 i2 p i4 k 0 d) = some r ∧ ∃ d', DiceOk d' ∧ r = Sum.inl (st4 owner number key part c1 c2 texts ks ps t i1 i2 p (i4 + 1) d') := by
  refine loopO_dice (fun i d => st5 owner number key part c1 c2 texts cs ks ps t i1 i2 p i4 k i d) 2 _ ?_ ?_ 2 0 d rfl hd
  · intro i d hi hd
    have di : decide ((i : Int) < 2) = true := by simp; omega
    have hic : i < cs.length := by omega
    obtain ⟨v, d1, e1, k1, _, _, _⟩ := pick_ok hd (n := 17) (by omega) (by omega)
    obtain ⟨w, d2, e2, k2, _, _, _⟩ := pick_ok k1 (n := 3) (by omega) (by omega)
    refine ⟨d2, k2, ?_⟩
    simp only [st5]
    simp only [G3_5, di, cond_true]
    rw [guardT_pos (by omega), getElem?_toNat hic, Option.bind_some, g17_eq _ _ _ _ _ _ _ ht, Option.bind_some, g18_eq _ _ _ _ _ _ _ ht, Option.bind_some]
    rw [show (d.1, d.2) = d from rfl, e1, Option.bind_some]
    simp only
    rw [show (d1.1, d1.2) = d1 from rfl, e2, Option.bind_some, g17_eq _ _ _ _ _ _ _ ht, Option.bind_some, bne_refl, cond_false]
    obtain ⟨s1, s2⟩ := same_make (makeB_small owner number t cs[i].1 cs[i].2 k p)
    rw [show ∀ b : Backup, (b.1, (b.2.1, (b.2.2.1, (b.2.2.2.1, b.2.2.2.2)))) = b from fun _ => rfl, s1, Option.bind_some]
    simp only [Bool.not_true, cond_false]
    rw [s2, Option.bind_some]
    simp only [Bool.not_true, cond_false]
    generalize hr : makeB (IntKind.wrap .i64 (1 + v)) (IntKind.wrap .i64 (1 + w)) t cs[i].1 cs[i].2 k p = r
    by_cases he : r.2.2 = 0
    · have z : (r.2.2 == 0) = true := by simp [he]
      rw [← hr] at he
      obtain ⟨m1, m2⟩ := makeB_ok he
      rw [hr] at m1 m2
      rw [z, cond_true, show ∀ b : Backup, (b.1, (b.2.1, (b.2.2.1, (b.2.2.2.1, b.2.2.2.2)))) = b from fun _ => rfl, valid_made m1, Option.bind_some]
      simp only [Bool.not_true, cond_false]
      rw [m2, bne_refl, Option.bind_some]
      simp only [cond_false]
      rw [wrap_i64_succ (by omega)]
    · have z : (r.2.2 == 0) = false := by simp [he]
      rw [z, cond_false, Option.bind_some]
      simp only [cond_false]
      rw [wrap_i64_succ (by omega)]
  · intro d hd
    have di : decide (((2 : Nat) : Int) < 2) = false := by decide
    refine ⟨Sum.inl (st4 owner number key part c1 c2 texts ks ps t i1 i2 p (i4 + 1) d), ?_, d, hd, rfl⟩
    simp only [st5]
    simp only [G3_5, di, cond_false, st4]
    rw [wrap_i64_succ (by omega)]

theorem step4 {ks ps : List Int} (hks : ks.length = 2) {t : List UInt8} (ht : t.length ≤ 2 ^ 30) {i1 i2 : Nat} (hi2 : i2 < 100) {p : Int} (d : Dice) (hd : DiceOk d) :
    ∃ r, loopO (G3_4 g12 g16 g17 g18 g19 g20 g21) (st4 owner number key part c1 c2 texts ks ps t i1 i2 p 0 d) = some r ∧ ∃ d', DiceOk d' ∧ r = Sum.inl (st2 owner number key part c1 c2 texts ps t i1 (i2 + 1) d') := by
  refine loopO_dice (fun i d => st4 owner number key part c1 c2 texts ks ps t i1 i2 p i d) 2 _ ?_ ?_ 2 0 d rfl hd
  · intro i d hi hd
    have di : decide ((i : Int) < 2) = true := by simp; omega
    have hic : i < ks.length := by omega
    obtain ⟨c, d1, e1, k1, _⟩ := code_ok hd
    obtain ⟨r, e, d2, k2, rfl⟩ := step5 (texts := texts) owner number key part c1 c2 (cs := [(c1, c2), (c.1, c.2)]) rfl (ks := ks) (ps := ps) ht (i1 := i1) (i2 := i2) (i4 := i) (by omega) (p := p) (k := ks[i]) d1 k1
    refine ⟨d2, k2, ?_⟩
    rw [← e]
    simp only [st4]
    simp only [G3_4, di, cond_true]
    rw [guardT_pos (by omega), getElem?_toNat hic, Option.bind_some, show (d.1, d.2) = d from rfl, e1, Option.bind_some]
    rfl
  · intro d hd
    have di : decide (((2 : Nat) : Int) < 2) = false := by decide
    refine ⟨Sum.inl (st2 owner number key part c1 c2 texts ps t i1 (i2 + 1) d), ?_, d, hd, rfl⟩
    simp only [st4]
    simp only [G3_4, di, cond_false, st2]
    rw [wrap_i64_succ (by omega)]

theorem step3 {ps : List Int} {t : List UInt8} (ht : t.length ≤ 2 ^ 30) {i1 i2 : Nat} (hi2 : i2 < 100) {p : Int} {l : List (List UInt8)} (hl : l.length ≤ 100) (d : Dice) (hd : DiceOk d) :
    ∃ d', DiceOk d' ∧ loopO (G3_3 g12 g16 g17 g18 g19 g20 g21) (ps, (texts, ((0 : Int), ((l.length : Int), ((i2 : Int), ((6 : Int), ((i1 : Int), ((4 : Int), (l, (l, (p, (t, (part, (key, (number, (owner, (d.1, (d.2, (c1, c2)))))))))))))))))))
      = some (Sum.inl (st2 owner number key part c1 c2 texts ps t i1 (i2 + 1) d')) := by
  have run := loopO_run (f := G3_3 g12 g16 g17 g18 g19 g20 g21) (fun k => (ps, (texts, ((k : Int), ((l.length : Int), ((i2 : Int), ((6 : Int), ((i1 : Int), ((4 : Int), (l, (l, (p, (t, (part, (key, (number, (owner, (d.1, (d.2, (c1, c2)))))))))))))))))))) l.length (by
    intro k hk
    have dk : decide ((k : Int) < (l.length : Int)) = true := by simp; exact hk
    simp only [G3_3, dk, cond_true]
    rw [guardT_pos (by omega), getElem?_toNat hk, Option.bind_some, guardT_pos (by omega), Option.bind_some, bne_refl, cond_false, wrap_i64_succ (by omega)])
  have dk : decide ((l.length : Int) < (l.length : Int)) = false := by simp
  obtain ⟨r, e, d2, k2, rfl⟩ := step4 (texts := texts) owner number key part c1 c2 (ks := [key, 7]) (ps := ps) rfl ht (i1 := i1) hi2 (p := p) d hd
  have e' : loopO (G3_4 g12 g16 g17 g18 g19 g20 g21) ([key, (7 : Int)], (ps, (texts, ((0 : Int), ((((2 : Nat) : Nat) : Int), ((i2 : Int), ((6 : Int), ((i1 : Int), ((4 : Int), (p, (t, (part, (key, (number, (owner, (d.1, (d.2, (c1, c2)))))))))))))))))) = some (Sum.inl (st2 owner number key part c1 c2 texts ps t i1 (i2 + 1) d2)) := e
  have fin : ∃ d', DiceOk d' ∧ G3_3 g12 g16 g17 g18 g19 g20 g21 (ps, (texts, ((l.length : Int), ((l.length : Int), ((i2 : Int), ((6 : Int), ((i1 : Int), ((4 : Int), (l, (l, (p, (t, (part, (key, (number, (owner, (d.1, (d.2, (c1, c2))))))))))))))))))) = some (Sum.inr (Sum.inl (st2 owner number key part c1 c2 texts ps t i1 (i2 + 1) d'))) := by
    simp only [G3_3, dk, cond_false]
    by_cases h30 : (t.length : Int) > 30
    · have d30 : decide ((t.length : Int) > 30) = true := by simp only [decide_eq_true_eq]; exact h30
      rw [d30, cond_true, Option.bind_some]
      by_cases h3 : p < 3
      · have d3 : decide (p < 3) = true := by simp [h3]
        refine ⟨d, hd, ?_⟩
        simp only [d3, cond_true, Option.bind_some]
        rw [wrap_i64_succ (by omega)]; rfl
      · have d3 : decide (p < 3) = false := by simp; omega
        refine ⟨d2, k2, ?_⟩
        simp only [d3, cond_false]
        rw [e', Option.bind_some]
    · have d30 : decide ((t.length : Int) > 30) = false := by simp only [decide_eq_false_iff_not]; exact h30
      rw [d30, cond_false, Option.bind_some]
      refine ⟨d2, k2, ?_⟩
      simp only [cond_false]
      rw [e', Option.bind_some]
  obtain ⟨d', k', e2⟩ := fin
  exact ⟨d', k', run.trans (loopO_end e2)⟩

theorem step2 {ps : List Int} (hps : ps.length = 6) {t : List UInt8} (ht : t.length ≤ 2 ^ 30) {i1 : Nat} (hi1 : i1 < 100) (d : Dice) (hd : DiceOk d) :
    ∃ r, loopO (G3_2 g12 g14 g15 g16 g17 g18 g19 g20 g21) (st2 owner number key part c1 c2 texts ps t i1 0 d) = some r ∧ ∃ d', DiceOk d' ∧ r = Sum.inl (st1 owner number key part c1 c2 texts (i1 + 1) d') := by
  refine loopO_dice (fun i d => st2 owner number key part c1 c2 texts ps t i1 i d) 6 _ ?_ ?_ 6 0 d rfl hd
  · intro i d hi hd
    have di : decide ((i : Int) < 6) = true := by simp; omega
    have hic : i < ps.length := by omega
    obtain ⟨d', k', e⟩ := step3 (texts := texts) owner number key part c1 c2 (ps := ps) ht (i1 := i1) (i2 := i) (by omega) (p := ps[i]) (l := (cutR t ps[i]).1) (by have := cutR_len t ps[i]; omega) d hd
    refine ⟨d', k', ?_⟩
    rw [← e]
    simp only [st2]
    simp only [G3_2, di, cond_true]
    rw [guardT_pos (by omega), getElem?_toNat hic, Option.bind_some, g14_eq t _ ht, Option.bind_some, g15_eq t _ ht, Option.bind_some, bne_refl, cond_false, bne_refl, Option.bind_some]
    rfl
  · intro d hd
    have di : decide (((6 : Nat) : Int) < 6) = false := by decide
    refine ⟨Sum.inl (st1 owner number key part c1 c2 texts (i1 + 1) d), ?_, d, hd, rfl⟩
    simp only [st2]
    simp only [G3_2, di, cond_false, st1]
    rw [wrap_i64_succ (by omega)]

theorem step1 (htl : texts.length = 4) (ht : ∀ t ∈ texts, t.length ≤ 2 ^ 30) (d : Dice) (hd : DiceOk d) : ∃ r, loopO (G3_1 g12 g14 g15 g16 g17 g18 g19 g20 g21) (st1 owner number key part c1 c2 texts 0 d) = some r ∧ r = true := by
  refine loopO_dice (fun i d => st1 owner number key part c1 c2 texts i d) 4 _ ?_ ?_ 4 0 d rfl hd
  · intro i d hi hd
    have di : decide ((i : Int) < 4) = true := by simp; omega
    have hic : i < texts.length := by omega
    obtain ⟨v, d1, e1, k1, _, _, _⟩ := pick_ok hd (n := 9) (by omega) (by omega)
    obtain ⟨r, e, d2, k2, rfl⟩ := step2 (texts := texts) owner number key part c1 c2 (ps := [part, IntKind.wrap .i64 (1 + v), 3, 0, 1024, 1025]) rfl (ht _ (List.getElem_mem hic)) (i1 := i) (by omega) d1 k1
    refine ⟨d2, k2, ?_⟩
    rw [← e]
    simp only [st1]
    simp only [G3_1, di, cond_true]
    rw [guardT_pos (by omega), getElem?_toNat hic, Option.bind_some, show (d.1, d.2) = d from rfl, e1, Option.bind_some]
    rfl
  · intro d hd
    have di : decide (((4 : Nat) : Int) < 4) = false := by decide
    refine ⟨true, ?_, rfl⟩
    simp only [st1]
    simp only [G3_1, di, cond_false]
end

theorem makes_true (s : List Int) (hs : ∀ x ∈ s, 0 ≤ x ∧ x < 256) (owner number key part : Int) (text : List UInt8) (c1 c2 : Int) : g3 (s, (owner, (number, (key, (part, (text, (c1, c2))))))) = some true := by
  simp only [g3, G3]
  rw [show g10 Unit.unit = some true from rfl, Option.bind_some]
  simp only [Bool.not_true, cond_false]
  by_cases h : (text.length : Int) > 200
  · have d : decide ((text.length : Int) > 200) = true := by simp only [decide_eq_true_eq]; exact h
    rw [d, cond_true]
  have d200 : decide ((text.length : Int) > 200) = false := by simp only [decide_eq_false_iff_not]; exact h
  rw [d200, cond_false]
  obtain ⟨d, e0, k0⟩ := new_ok hs
  obtain ⟨v, d1, e1, k1, v1, v2, _⟩ := pick_ok k0 (n := 2) (by omega) (by omega)
  obtain ⟨t, d2, e2, k2, hl⟩ := text_ok k1
  rw [e0, Option.bind_some, show (d.1, d.2) = d from rfl, e1, Option.bind_some]
  simp only
  rw [wrap_i64 (x := 48 + v) (by omega) (by omega), guardT_pos ⟨by omega, by omega⟩, show (d1.1, d1.2) = d1 from rfl, e2, Option.bind_some]
  obtain ⟨r, e, hr⟩ := step1 owner number key part c1 c2 (texts := [text, t, [], List.map (fun x32 : Int => UInt8.ofNat x32.toNat) (List.replicate (48 + v).toNat 0)]) rfl (by
    intro x hx
    simp only [List.mem_cons, List.not_mem_nil, or_false] at hx
    rcases hx with rfl | rfl | rfl | rfl
    · omega
    · omega
    · simp
    · simp; omega) d2 k2
  subst hr
  exact e
end Go.Abs

/- BackupMakes, called. -/
namespace Go.Abs
open Go Go.Proofs Go.RowKit
set_option maxRecDepth 100000

/-- A slice of numbers, as its cells read. -/
def IsRow (k : IntKind) (w : World) (a : Option Addr) (len cap : Nat) (zs : List Int) : Prop :=
  (a = none ∧ len = 0 ∧ cap = 0 ∧ zs = []) ∨
  ∃ x, a = some x ∧ len ≤ cap ∧ cap ≤ maxLen ∧ zs.length = cap ∧ (∀ i, i < zs.length → w.cell? (x.add i) = some (.int k (zs.getD i 0))) ∧ ∀ n ∈ zs, (Lit.int k n).wf = true

theorem rows_of_cells {I : Nat → Prop} {w : World} {b : Nat} {k : IntKind} : ∀ (ns : List Int) (off : Nat), (∀ i, i < ns.length → World.cellAt w b (off + i) = some (.int k (ns.getD i 0))) → VRows I w b off 1 (ns.map fun n => [PD.val (.int k n)])
  | [], _, _ => by simp only [List.map_nil, VRows]
  | n :: ns, off, h => by
    simp only [List.map_cons, VRows, VAt]
    refine ⟨rfl, ⟨⟨.int k n, ?_, rfl, by simp only [VRel]⟩, trivial⟩, rows_of_cells ns (off + 1) fun i hi => ?_⟩
    · have := h 0 (by simp)
      simpa using this
    · have := h (i + 1) (by simp; omega)
      rw [show off + 1 + i = off + (i + 1) by omega, this]
      simp
theorem IsRow.rel {k : IntKind} {w : World} {a : Option Addr} {len cap : Nat} {zs : List Int} (h : IsRow k w a len cap zs) :
    VRel (fun b => b < w.heap.size) w (.sl ((zs.take len).map fun n => [PD.val (.int k n)])) (.slice a len cap) := by
  rcases h with ⟨rfl, rfl, rfl, rfl⟩ | ⟨x, rfl, hl, hm, hz, hc, _⟩
  · simp only [VRel]
    exact ⟨none, 0, rfl, Nat.le_refl _, by simp [maxLen], .inl rfl⟩
  · simp only [VRel]
    have hlen : (((zs.take len).map fun n => [PD.val (.int k n)]) : List (List PD)).length = len := by simp; omega
    rw [hlen]
    refine ⟨some x, cap, rfl, hl, hm, ?_⟩
    by_cases h0 : len = 0
    · left; subst h0; simp
    · right
      have hc0 := hc 0 (by omega)
      obtain ⟨xb, xo, xs⟩ := x
      have hsp : xs = none := by
        cases xs with
        | none => rfl
        | some s =>
          simp only [World.cell?, Addr.add] at hc0
          split at hc0
          · simp at hc0
          · cases hc0
      subst hsp
      refine ⟨xb, xo, 1, rfl, ?_, rows_of_cells _ _ fun i hi => ?_⟩
      · simp only [World.cell?, Addr.add] at hc0
        split at hc0
        · rename_i e; exact lt_of_cells e
        · cases hc0
      · simp only [List.length_take] at hi
        have := hc i (by omega)
        have ea : (⟨xb, xo, none⟩ : Addr).add i = ⟨xb, xo + i, none⟩ := by
          simp only [Addr.add]
          split
          · rename_i e; subst e; rfl
          · rfl
        rw [ea] at this
        rw [World.cellAt, this]
        have h1 : i < len := by omega
        have h2 : i < zs.length := by omega
        simp [List.getD_eq_getElem?_getD, h1, h2]
theorem IsRow.byte {w : World} {a : Option Addr} {len cap : Nat} {zs : List Int} (h : IsRow .u8 w a len cap zs) : ∀ x ∈ zs.take len, 0 ≤ x ∧ x < 256 := by
  intro x hx
  rcases h with ⟨_, _, _, rfl⟩ | ⟨_, _, _, _, _, _, hw⟩
  · simp at hx
  · have := hw x (List.mem_of_mem_take hx)
    simp only [Lit.wf, Bool.and_eq_true, decide_eq_true_eq, IntKind.min, IntKind.max] at this
    have h1 := this.1
    have h2 := this.2
    simp [IntKind.bits, IntKind.signed] at h1 h2
    omega

theorem open_pair2 {P : Program} {w : World} {r : Reach} {base : Nat} {t u : TypeId} {v : Value} {fs : Array Field} {k : IntKind} (ht : P.underlying t = some (.struct fs)) (hc : P.cellTypes P.depth t = some [u, u]) (hn : P.cellsOf t = 2)
    (hu : P.underlying u = some (.int k)) (h : Value.okWide P w r base t v) : ∃ a b, v = .agg #[.int k a, .int k b] := by
  simp only [Value.okWide, ht] at h
  obtain ⟨cs, rfl, hs, ts, hts, _, hcs⟩ := h
  rw [hc] at hts
  cases hts
  rw [hn] at hs
  have one : ∀ i, i < 2 → ∃ a, cs[i]? = some (.int k a) := by
    intro i hi
    have hi' : i < cs.size := by omega
    have e : cs[i]? = some cs[i] := by simp [hi']
    obtain ⟨u', hu', hok⟩ := hcs i _ e
    have : u' = u := by
      match i, hi with
      | 0, _ => simpa using hu'.symm
      | 1, _ => simpa using hu'.symm
    subst this
    simp only [Cell.okWide, hu, Cell.ok] at hok
    rw [e]
    split at hok <;> simp_all
  obtain ⟨a, ha⟩ := one 0 (by omega)
  obtain ⟨b, hb⟩ := one 1 (by omega)
  refine ⟨a, b, ?_⟩
  congr 1
  apply Array.ext
  · simp [hs]
  · intro i h1 h2
    have : i = 0 ∨ i = 1 := by omega
    rcases this with rfl | rfl
    · have := ha; rw [Array.getElem?_eq_getElem h1] at this; simpa using this
    · have := hb; rw [Array.getElem?_eq_getElem h1] at this; simpa using this

theorem decSl {k : IntKind} (l : List Int) : (SK.leaf (.sl (.int k))).dec (.sl (l.map fun n => [PD.val (.int k n)])) = some l := by
  exact decAll (τ := .sl (.int k)) rfl l
theorem lift3 (F : els [.sl (.int .u8), .int .i64, .int .i64, .int .i64, .int .i64, .str, .pair (.int .i64) (.int .i64)] → Option (els [.bool])) (l : List Int) (o n k p : Int) (t : ByteArray) (c1 c2 : Int) (r : Bool) (h : F (l, (o, (n, (k, (p, (t.data.toList, (c1, c2))))))) = some r) :
    (S3 F).lift [.sl (l.map fun n => [PD.val (.int .u8 n)]), .val (.int .i64 o), .val (.int .i64 n), .val (.int .i64 k), .val (.int .i64 p), .val (.string t), .agg [.val (.int .i64 c1), .val (.int .i64 c2)]] = some (.val (.bool r)) := by
  have e : decArgs (S3 F).args [.sl (l.map fun n => [PD.val (.int .u8 n)]), .val (.int .i64 o), .val (.int .i64 n), .val (.int .i64 k), .val (.int .i64 p), .val (.string t), .agg [.val (.int .i64 c1), .val (.int .i64 c2)]] =
      some [⟨.sl (.int .u8), l⟩, ⟨.int .i64, o⟩, ⟨.int .i64, n⟩, ⟨.int .i64, k⟩, ⟨.int .i64, p⟩, ⟨.str, t.data.toList⟩, ⟨.pair (.int .i64) (.int .i64), (c1, c2)⟩] := by
    simp only [S3, decArgs, SA.dec, decSl]
    rfl
  unfold PSpec.lift
  rw [e]
  have hp : pack (S3 F).ts [⟨.sl (.int .u8), l⟩, ⟨.int .i64, o⟩, ⟨.int .i64, n⟩, ⟨.int .i64, k⟩, ⟨.int .i64, p⟩, ⟨.str, t.data.toList⟩, ⟨.pair (.int .i64) (.int .i64), (c1, c2)⟩] = some (l, (o, (n, (k, (p, (t.data.toList, (c1, c2))))))) := by kernel_rfl
  simp only [hp]
  have hF : (S3 F).F (l, (o, (n, (k, (p, (t.data.toList, (c1, c2))))))) = some r := h
  rw [hF]
  rfl

theorem makes_calls (a : Option Addr) (len cap : Nat) (zs : List Int) (o n k p : Int) (t : ByteArray) (c1 c2 : Int) (w : World) (hr : IsRow .u8 w a len cap zs) (_ : t.size ≤ 140737488351232) :
    Calls Tryz.prog 3 #[.slice a len cap, .int .i64 o, .int .i64 n, .int .i64 k, .int .i64 p, .string t, .agg #[.int .i64 c1, .int .i64 c2]] w fun e w' => e = .returned (.bool true) ∧ Below w.heap.size w w' := by
  have hF := makes_true (zs.take len) hr.byte o n k p t.data.toList c1 c2
  have hl := lift3 g3 (zs.take len) o n k p t c1 c2 true hF
  refine (C3.2 _ (List.mem_singleton_self _) (fun b => b < w.heap.size) w _ [.slice a len cap, .int .i64 o, .int .i64 n, .int .i64 k, .int .i64 p, .string t, .agg #[.int .i64 c1, .int .i64 c2]] _ hl (fun _ h => h) ?_).mono ?_
  · have h1 := hr.rel
    simp only [VRels]
    refine ⟨_, _, rfl, h1, _, _, rfl, by simp only [VRel], _, _, rfl, by simp only [VRel], _, _, rfl, by simp only [VRel], _, _, rfl, by simp only [VRel], _, _, rfl, by simp only [VRel], _, _, rfl, ?_, rfl⟩
    simp only [VRel, VRels]
    refine ⟨_, rfl, ?_, _, _, rfl, rfl, _, _, rfl, rfl, rfl⟩
    intro v hv
    simp at hv
    rcases hv with rfl | rfl <;> rfl
  · rintro e w' ⟨x, rfl, hb, hx⟩
    simp only [VRel] at hx
    subst hx
    exact ⟨rfl, hb⟩
end Go.Abs
