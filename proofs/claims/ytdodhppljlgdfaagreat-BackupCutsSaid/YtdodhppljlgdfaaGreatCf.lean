import Derived.Test.YtdodhppljlgdfaaGreatLe
import Derived.Test.YtdodhppljlgdfaaGreatSe
/- backup.Cut and the law BackupCuts, as functions. -/
namespace Go.Abs
open Go Go.Proofs
set_option maxRecDepth 100000

theorem loopO_total {S R : Type} {f : S → Option (S ⊕ R)} (Inv : S → Prop) (μ : S → Nat) (Post : R → Prop)
    (step : ∀ s, Inv s → (∃ s', f s = some (.inl s') ∧ Inv s' ∧ μ s' < μ s) ∨ (∃ r, f s = some (.inr r) ∧ Post r)) : ∀ s, Inv s → ∃ r, loopO f s = some r ∧ Post r := by
  intro s
  generalize hm : μ s = m
  induction m using Nat.strongRecOn generalizing s with
  | _ m ih =>
    intro hs
    rw [loopO_eq]
    rcases step s hs with ⟨s', e, hs', hlt⟩ | ⟨r, e, hr⟩
    · rw [e]; exact ih (μ s') (by omega) s' rfl hs'
    · rw [e]; exact ⟨r, rfl, hr⟩

/-! ### Cut -/
noncomputable def H14 : Hints := { loops := [(6, [.grow 6 0 .str])], regs := [(1, [.dat 8 .bool])] }
abbrev Piece := List UInt8
abbrev FCut := Piece × Int → Option (List Piece × Int)
noncomputable def F14 : FCut := runT Tryz.prog (tgamOf []) 14 H14 [.s (.leaf .str), .s (.leaf (.int .i64))] [.str, .int .i64] [false, false] [.sl .str, .int .i64]
def S14 (F : FCut) : PSpec := ⟨[], [.s (.leaf .str), .s (.leaf (.int .i64))], [.str, .int .i64], [false, false], [.sl .str, .int .i64], F⟩

/-- How long the next piece is. -/
def cutLen (x : List Piece × Int × Piece) : Int := if ((x.2.2.length : Nat) : Int) < x.2.1 then (x.2.2.length : Nat) else x.2.1
def cutStep (x : List Piece × Int × Piece) : Option ((List Piece × Int × Piece) ⊕ (List Piece × Int)) :=
  bif decide (((x.2.2.length : Nat) : Int) > 0) then
    guardT (0 ≤ cutLen x ∧ cutLen x ≤ (x.2.2.length : Nat)) (guardT ((x.1.length + [x.2.2.take (cutLen x).toNat].length) * (16 + 1) ≤ 2 ^ 40)
      (guardT (0 ≤ cutLen x ∧ cutLen x ≤ (x.2.2.length : Nat)) (some (.inl (x.1 ++ [x.2.2.take (cutLen x).toNat], x.2.1, x.2.2.drop (cutLen x).toNat)))))
  else some (.inr (x.1, 0))
noncomputable def cutF (s : Piece) (p : Int) : Option (List Piece × Int) :=
  Option.bind (bif decide (p < 1) then some (true, p, s) else some (decide (p > 1024), p, s)) fun val =>
    bif val.1 then some ([], 1) else
      bif decide (((val.2.2.length : Nat) : Int) > IntKind.wrap IntKind.i64 (val.2.1 * 16)) then some ([], 4) else loopO cutStep ([], val.2.1, val.2.2)
theorem E14 (s : Piece) (p : Int) : F14 (s, p) = cutF s p := by unfold F14; kernel_rfl
theorem ok14 : okF Tryz.prog (tgamOf []) 14 (S14 F14).args = true := by kernel_rfl
theorem C14 : EntOk Tryz.prog 14 (.p [S14 F14]) := TabOk.addP (T := []) mixed7 trivial H14 (S14 F14) [] (by simp) ok14 rfl

/-! ### The law -/
def S10 : PSpec := ⟨[], [], [], [false], [.bool], fun _ => some true⟩
theorem C10 : EntOk Tryz.prog 10 (.p [S10]) := by
  refine ⟨enters_of_B (by kernel_rfl), fun s hs => ?_⟩
  rw [List.mem_singleton.1 hs]
  intro I w ds xs r hr hI hx
  refine sane_sound I w ds xs r ?_ hI hx
  unfold PSpec.lift at hr
  cases ds with
  | nil => exact hr
  | cons d ds => simp [S10, decArgs] at hr
def T5 (F : FCut) : FTab := [(14, .p [S14 F]), (10, .p [S10])]
noncomputable def H5 : Hints := { loops := [(11, [])], regs := [(8,[.dat 4 .bool]), (13,[.dat 64 .bool]), (17,[.dat 4 .bool])] }
noncomputable def F5 (F : FCut) : Piece × Int → Option Bool := runT Tryz.prog (tgamOf (T5 F)) 5 H5 [.s (.leaf .str), .s (.leaf (.int .u8))] [.str, .int .u8] [false] [.bool]
noncomputable def S5 (F : FCut) : PSpec := ⟨[], [.s (.leaf .str), .s (.leaf (.int .u8))], [.str, .int .u8], [false], [.bool], F5 F⟩

abbrev Joined := Int × Int × List Piece × Piece × List Piece × Int × Piece
def joinStep (x : Joined) : Option (Joined ⊕ Bool) :=
  bif decide (x.1 < x.2.1) then
    guardT (0 ≤ x.1) (Option.bind (x.2.2.1[x.1.toNat]?) fun v =>
      Option.bind (bif ((v.length : Nat) : Int) == 0 then none else bif decide (((v.length : Nat) : Int) > x.2.2.2.2.2.1) then none else
        bif decide (IntKind.wrap IntKind.i64 (x.1 + 1) < (x.2.2.2.2.1.length : Nat)) then some (((v.length : Nat) : Int) != x.2.2.2.2.2.1, x.1, x.2.1, x.2.2.1, v, x.2.2.2.1, x.2.2.2.2.1, x.2.2.2.2.2.1, x.2.2.2.2.2.2)
        else some (false, x.1, x.2.1, x.2.2.1, v, x.2.2.2.1, x.2.2.2.2.1, x.2.2.2.2.2.1, x.2.2.2.2.2.2)) fun val =>
      bif val.1 then some (.inr false) else
        guardT (val.2.2.2.2.2.1.length + val.2.2.2.2.1.length ≤ 2 ^ 62)
          (some (.inl (IntKind.wrap IntKind.i64 (val.2.1 + 1), val.2.2.1, val.2.2.2.1, val.2.2.2.2.2.1 ++ val.2.2.2.2.1, val.2.2.2.2.2.2.1, val.2.2.2.2.2.2.2.1, val.2.2.2.2.2.2.2.2))))
  else Option.bind (Option.bind (bif x.2.2.2.1 == x.2.2.2.2.2.2 then some (decide (((x.2.2.2.2.1.length : Nat) : Int) ≤ 16)) else some false) fun val => some val) fun val => some (.inr val)
noncomputable def cutsF (F : FCut) (s : Piece) (p : Int) : Option Bool :=
  bif decide (((s.length : Nat) : Int) > 300) then some true else
    Option.bind (F (s, IntKind.wrap IntKind.i64 (1 + IntKind.wrap IntKind.i64 p))) fun val =>
      bif val.2 != 0 then
        Option.bind (bif val.2 == 4 then some (decide (((s.length : Nat) : Int) > IntKind.wrap IntKind.i64 (IntKind.wrap IntKind.i64 (1 + IntKind.wrap IntKind.i64 p) * 16))) else some false) fun val => some val
      else loopO joinStep (0, (val.1.length : Nat), val.1, [], val.1, IntKind.wrap IntKind.i64 (1 + IntKind.wrap IntKind.i64 p), s)
theorem E5 (F : FCut) (s : Piece) (p : Int) : F5 F (s, p) = cutsF F s p := by unfold F5; kernel_rfl
theorem T5_ok : TabOk Tryz.prog (T5 F14) := ⟨C14, C10, trivial⟩
theorem ok5 : okF Tryz.prog (tgamOf (T5 F14)) 5 (S5 F14).args = true := by kernel_rfl
theorem C5 : EntOk Tryz.prog 5 (.p [S5 F14]) := TabOk.addP mixed7 T5_ok H5 (S5 F14) [] (by simp) ok5 rfl
end Go.Abs

/- The law BackupCuts answers true: of functions alone. -/
namespace Go.Abs
open Go Go.Proofs

theorem wrap_i64 {x : Int} (h : -9223372036854775808 ≤ x) (k : x < 9223372036854775808) : IntKind.wrap IntKind.i64 x = x := by
  unfold IntKind.wrap
  simp only [IntKind.bits, IntKind.signed]
  have : (2 : Int) ^ 64 = 18446744073709551616 := by decide
  have h63 : (2 : Int) ^ (64 - 1) = 9223372036854775808 := by decide
  simp only [this, h63]
  by_cases h0 : 0 ≤ x
  · have e : x % 18446744073709551616 = x := by omega
    rw [e]
    simp; omega
  · have e : x % 18446744073709551616 = x + 18446744073709551616 := by omega
    rw [e]
    simp; omega

def Pieces (q : Int) (ps : List Piece) : Prop := ∀ i v, ps[i]? = some v → 1 ≤ v.length ∧ (v.length : Int) ≤ q ∧ (i + 1 < ps.length → (v.length : Int) = q)

structure CutInv (s : Piece) (q : Int) (x : List Piece × Int × Piece) : Prop where
  hq : x.2.1 = q
  all : x.1.flatten ++ x.2.2 = s
  good : Pieces q x.1
  full : x.2.2 ≠ [] → ∀ v ∈ x.1, (v.length : Int) = q
  len : (x.1.length : Int) * q < s.length + q
  rest : x.2.2 ≠ [] → (x.1.length : Int) * q + x.2.2.length = s.length

theorem cut_loop (s : Piece) (q : Int) (hq : 1 ≤ q) (hq2 : q ≤ 1024) (hs : s.length ≤ 2 ^ 20) :
    ∃ r, loopO cutStep ([], q, s) = some r ∧ ∃ ps, r = (ps, 0) ∧ ps.flatten = s ∧ Pieces q ps ∧ (ps.length : Int) * q < s.length + q := by
  refine loopO_total (CutInv s q) (fun x => x.2.2.length) _ ?_ ([], q, s) ⟨rfl, by simp, by intro i v h; simp at h, by simp, by simp; omega, by simp⟩
  rintro ⟨ps, q', rest⟩ ⟨h1, h2, h3, h4, h5, h6⟩
  simp only at h1 h2 h3 h4 h5 h6
  subst h1
  unfold cutStep
  by_cases h0 : rest = []
  · right
    subst h0
    exact ⟨(ps, 0), by simp, ps, rfl, by simpa using h2, h3, h5⟩
  · left
    have hl : 0 < rest.length := List.length_pos_iff.2 h0
    have hd : decide (((rest.length : Nat) : Int) > 0) = true := by simp; omega
    have hrl := h6 h0
    have hc : 1 ≤ cutLen (ps, q', rest) ∧ cutLen (ps, q', rest) ≤ rest.length ∧ cutLen (ps, q', rest) ≤ q' ∧ (cutLen (ps, q', rest) < rest.length → cutLen (ps, q', rest) = q') := by
      unfold cutLen; simp only; split <;> omega
    generalize cutLen (ps, q', rest) = c at hc ⊢
    obtain ⟨c1, c2, c3, c4⟩ := hc
    have hpl : (ps.length : Int) ≤ s.length := by
      have : (ps.length : Int) * 1 ≤ ps.length * q' := Int.mul_le_mul_of_nonneg_left hq (by omega)
      omega
    simp only [hd, cond_true]
    rw [guardT_pos ⟨by omega, c2⟩, guardT_pos (by simp; omega), guardT_pos ⟨by omega, c2⟩]
    obtain ⟨n, rfl⟩ : ∃ n : Nat, c = n := ⟨c.toNat, by omega⟩
    have htl : (rest.take n).length = n := by simp; omega
    refine ⟨_, rfl, ⟨rfl, ?_, ?_, ?_, ?_, ?_⟩, ?_⟩
    · simp only [List.flatten_append, List.flatten_cons, List.flatten_nil, List.append_nil, Int.toNat_natCast, List.append_assoc, List.take_append_drop]; exact h2
    · intro i v hv
      simp only [Int.toNat_natCast] at hv
      simp only [Int.toNat_natCast, List.length_append, List.length_cons, List.length_nil]
      by_cases hi : i < ps.length
      · rw [List.getElem?_append_left hi] at hv
        have hm := h4 h0 v (List.mem_of_getElem? hv)
        have := h3 i v hv
        exact ⟨this.1, this.2.1, fun _ => hm⟩
      · rw [List.getElem?_append_right (by omega)] at hv
        have hi0 : i - ps.length = 0 := by
          rcases Nat.eq_zero_or_pos (i - ps.length) with h | h
          · exact h
          · rw [List.getElem?_eq_none (by simp; omega)] at hv; cases hv
        rw [hi0] at hv
        simp only [List.getElem?_cons_zero, Option.some.injEq] at hv
        subst hv
        rw [htl]
        exact ⟨by omega, c3, fun k => by omega⟩
    · intro hne v hv
      simp only [Int.toNat_natCast] at hne hv
      rcases List.mem_append.1 hv with hv | hv
      · exact h4 h0 v hv
      · rw [List.mem_singleton.1 hv, htl]
        have : (rest.drop n).length ≠ 0 := fun k => hne (List.eq_nil_of_length_eq_zero k)
        simp at this
        exact c4 (by omega)
    · simp only [List.length_append, List.length_cons, List.length_nil]
      push_cast
      rw [Int.add_mul]
      omega
    · intro hne
      simp only [Int.toNat_natCast] at hne ⊢
      have : (rest.drop n).length ≠ 0 := fun k => hne (List.eq_nil_of_length_eq_zero k)
      simp at this
      simp only [List.length_append, List.length_cons, List.length_nil, List.length_drop]
      have := c4 (by omega)
      push_cast
      rw [Int.add_mul]
      omega
    · simp only [Int.toNat_natCast, List.length_drop]; omega

theorem cutF_spec (s : Piece) (q : Int) (hq : 1 ≤ q) (hq2 : q ≤ 1024) (hs : s.length ≤ 2 ^ 20) :
    (cutF s q = some ([], 4) ∧ (s.length : Int) > q * 16) ∨ ∃ ps, cutF s q = some (ps, 0) ∧ ps.flatten = s ∧ Pieces q ps ∧ ps.length ≤ 16 := by
  unfold cutF
  have d1 : decide (q < 1) = false := by simp; omega
  have d2 : decide (q > 1024) = false := by simp; omega
  rw [d1, d2]
  simp only [cond_false, Option.bind_some]
  rw [wrap_i64 (by omega) (by omega)]
  by_cases h : (s.length : Int) > q * 16
  · left; simp [h]
  · right
    obtain ⟨_, hr, ps, rfl, h1, h2, h3⟩ := cut_loop s q hq hq2 hs
    have hd : decide (((s.length : Nat) : Int) > q * 16) = false := by simp; omega
    rw [hd, cond_false]
    refine ⟨ps, hr, h1, h2, ?_⟩
    rcases Nat.lt_or_ge 16 ps.length with k | k
    · have : (17 : Int) * q ≤ ps.length * q := Int.mul_le_mul_of_nonneg_right (by omega) (by omega)
      omega
    · exact k

structure JoinInv (ps : List Piece) (q : Int) (s : Piece) (x : Joined) : Prop where
  lo : 0 ≤ x.1
  hi : x.1 ≤ ps.length
  hn : x.2.1 = ps.length
  ps1 : x.2.2.1 = ps
  acc : x.2.2.2.1 = (ps.take x.1.toNat).flatten
  ps2 : x.2.2.2.2.1 = ps
  hq : x.2.2.2.2.2.1 = q
  hs : x.2.2.2.2.2.2 = s

theorem flatten_take_le : ∀ (ps : List Piece) (n : Nat), (ps.take n).flatten.length ≤ ps.flatten.length
  | _, 0 => by simp
  | [], n + 1 => by simp
  | p :: ps, n + 1 => by
    have := flatten_take_le ps n
    simp only [List.take_succ_cons, List.flatten_cons, List.length_append]; omega

theorem join_loop (ps : List Piece) (q : Int) (s : Piece) (hq : q ≤ 1024) (hs : s.length ≤ 2 ^ 20) (hf : ps.flatten = s) (hg : Pieces q ps) (hl : ps.length ≤ 16) :
    ∃ r, loopO joinStep (0, (ps.length : Nat), ps, [], ps, q, s) = some r ∧ r = true := by
  refine loopO_total (JoinInv ps q s) (fun x => ps.length - x.1.toNat) _ ?_ _ ⟨by simp, by simp, rfl, rfl, by simp, rfl, rfl, rfl⟩
  rintro ⟨i, n, p1, acc, p2, q', s'⟩ ⟨h1, h2, h3, h4, h5, h6, h7, h8⟩
  simp only at h1 h2 h3 h4 h5 h6 h7 h8
  subst h3 h4 h7 h8
  subst h6
  unfold joinStep
  obtain ⟨k, rfl⟩ : ∃ k : Nat, i = k := ⟨i.toNat, by omega⟩
  simp only [Int.toNat_natCast] at h5
  by_cases hk : k < p2.length
  · left
    have hd : decide (((k : Nat) : Int) < (p2.length : Nat)) = true := by simp; exact hk
    simp only [hd, cond_true, Int.toNat_natCast]
    rw [guardT_pos (by omega), List.getElem?_eq_getElem hk]
    simp only [Option.bind_some]
    have hv := hg k _ (List.getElem?_eq_getElem hk)
    generalize hvv : p2[k] = v at hv ⊢
    obtain ⟨v1, v2, v3⟩ := hv
    have e1 : (((v.length : Nat) : Int) == 0) = false := by simp; intro h; subst h; simp at v1
    have e2 : decide (((v.length : Nat) : Int) > q') = false := by simp; omega
    rw [e1, e2]
    simp only [cond_false]
    rw [wrap_i64 (by omega) (by omega)]
    have hne : (bif decide (((k : Nat) : Int) + 1 < (p2.length : Nat)) then some (((v.length : Nat) : Int) != q', ((k : Nat) : Int), ((p2.length : Nat) : Int), p2, v, acc, p2, q', s') else some (false, ((k : Nat) : Int), ((p2.length : Nat) : Int), p2, v, acc, p2, q', s')) =
        some (false, ((k : Nat) : Int), ((p2.length : Nat) : Int), p2, v, acc, p2, q', s') := by
      by_cases hk1 : k + 1 < p2.length
      · have : decide (((k : Nat) : Int) + 1 < (p2.length : Nat)) = true := by simp; omega
        rw [this, cond_true]
        have : (((v.length : Nat) : Int) != q') = false := by simp [v3 hk1]
        rw [this]
      · have : decide (((k : Nat) : Int) + 1 < (p2.length : Nat)) = false := by simp; omega
        rw [this, cond_false]
    rw [hne]
    simp only [Option.bind_some, cond_false]
    have hacc : acc ++ v = (p2.take (k + 1)).flatten := by
      rw [h5, List.take_add_one, List.getElem?_eq_getElem hk, hvv]; simp
    rw [guardT_pos (by
      have := flatten_take_le p2 (k + 1)
      rw [← hacc, hf, List.length_append] at this
      omega)]
    rw [wrap_i64 (by omega) (by omega)]
    refine ⟨_, rfl, ⟨by simp; omega, by simp; omega, rfl, rfl, ?_, rfl, rfl, rfl⟩, by simp; omega⟩
    simp only
    rw [hacc]
    congr 2
  · right
    have hd : decide (((k : Nat) : Int) < (p2.length : Nat)) = false := by simp; omega
    simp only [hd, cond_false]
    have hall : acc = s' := by
      rw [h5, ← hf, List.take_of_length_le (by omega)]
    have e1 : (acc == s') = true := by rw [hall]; simp
    rw [e1, cond_true]
    have e2 : decide (((p2.length : Nat) : Int) ≤ 16) = true := by simp; omega
    rw [e2]
    exact ⟨true, rfl, rfl⟩

theorem cuts_true (s : Piece) (p : Int) (hp : 0 ≤ p) (hp2 : p < 256) (hs : s.length < 2 ^ 62) : F5 F14 (s, p) = some true := by
  rw [E5]
  unfold cutsF
  by_cases h : (s.length : Int) > 300
  · have : decide (((s.length : Nat) : Int) > 300) = true := by simp; omega
    rw [this, cond_true]
  have : decide (((s.length : Nat) : Int) > 300) = false := by simp; omega
  rw [this, cond_false, wrap_i64 (x := p) (by omega) (by omega), wrap_i64 (x := 1 + p) (by omega) (by omega), E14]
  rcases cutF_spec s (1 + p) (by omega) (by omega) (by omega) with ⟨e, hgt⟩ | ⟨ps, e, hf, hg, hl⟩
  · rw [e]
    simp only [Option.bind_some]
    rw [wrap_i64 (by omega) (by omega)]
    have : decide (((s.length : Nat) : Int) > (1 + p) * 16) = true := by simp; omega
    rw [this]
    rfl
  · rw [e]
    simp only [Option.bind_some]
    obtain ⟨r, hr, rfl⟩ := join_loop ps (1 + p) s (by omega) (by omega) hf hg hl
    exact hr
end Go.Abs

/- BackupCuts, called. -/
namespace Go.Abs
open Go Go.Proofs Go.RowKit

theorem lift_str_u8 (F : Piece × Int → Option Bool) (a0 : ByteArray) (a1 : Int) :
    (⟨[], [.s (.leaf .str), .s (.leaf (.int .u8))], [.str, .int .u8], [false], [.bool], F⟩ : PSpec).lift [.val (.string a0), .val (.int .u8 a1)] = match F (a0.data.toList, a1) with
      | some y => some (outPD (tagged [false] (unpack [.bool] y)))
      | none => none := by kernel_rfl
theorem cuts_calls (a0 : ByteArray) (a1 : Int) (h0 : a0.size ≤ 140737488351232) (h1 : 0 ≤ a1) (h2 : a1 < 256) (w : World) :
    Calls Tryz.prog 5 #[.string a0, .int .u8 a1] w fun e w' => e = .returned (.bool true) ∧ Below w.heap.size w w' := by
  have hsz : a0.data.toList.length = a0.size := by simp
  have hF := cuts_true a0.data.toList a1 h1 h2 (by omega)
  have hl : (S5 F14).lift [.val (.string a0), .val (.int .u8 a1)] = some (.val (.bool true)) := by
    rw [S5, lift_str_u8, hF]; rfl
  refine (C5.2 _ (List.mem_singleton_self _) (fun _ => False) w _ [.string a0, .int .u8 a1] _ hl (fun _ h => h.elim) (by simp [VRels, VRel])).mono ?_
  rintro e w' ⟨x, rfl, hb, hx⟩
  simp only [VRel] at hx
  subst hx
  exact ⟨rfl, hb⟩
theorem wf_u8 {n : Int} (h : (Lit.int .u8 n).wf = true) : 0 ≤ n ∧ n < 256 := by
  simp only [Lit.wf, Bool.and_eq_true, decide_eq_true_eq, IntKind.min, IntKind.max] at h
  have h1 := h.1
  have h2 := h.2
  simp [IntKind.bits, IntKind.signed] at h1 h2
  omega
end Go.Abs
