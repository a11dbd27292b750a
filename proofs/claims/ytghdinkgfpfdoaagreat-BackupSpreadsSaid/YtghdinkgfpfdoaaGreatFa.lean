import Derived.Test.YtghdinkgfpfdoaaGreatLe
import Derived.Test.YtghdinkgfpfdoaaGreatSe
/- The given contracts, typed. -/
namespace Go.Abs
open Go Go.Proofs Go.RowKit

theorem EntOk.cons {P : Program} {f : FuncId} {s : PSpec} {l : List PSpec} (h : EntOk P f (.p [s])) (k : EntOk P f (.p l)) : EntOk P f (.p (s :: l)) :=
  ⟨h.1, fun t ht => by
    rcases List.mem_cons.1 ht with rfl | ht
    · exact h.2 _ (List.mem_singleton_self _)
    · exact k.2 _ ht⟩
theorem EntOk.given {P : Program} {f : FuncId} {s : PSpec} {F : List PD → Option PD} (he : Enters P f) (hF : PSound P f F) (h : ∀ ds r, s.lift ds = some r → F ds = some r) : EntOk P f (.p [s]) :=
  ⟨he, fun t ht => by
    rw [List.mem_singleton.1 ht]
    intro I w ds xs r hr hI hx
    exact hF I w ds xs r (h ds r hr) hI hx⟩

def S192 (F : els [.str, .int .i64] → Option (els [.str])) : PSpec := ⟨[], [.s (.leaf .str), .s (.leaf (.int .i64))], [.str, .int .i64], [false], [.str], F⟩
def g192 (x : List UInt8 × Int) : Option (List UInt8) := if x.1.length ≤ 2 ^ 40 then some (x.1 ++ Tryz.putBytes x.2) else none
theorem decLeafStr {d : PD} {x : List UInt8} (h : (SK.leaf .str).dec d = some x) : ∃ s, d = .val (.string s) ∧ x = s.data.toList := by
  simp only [SK.dec, decC] at h
  split at h
  · rename_i e; cases e; cases h; exact ⟨_, rfl, rfl⟩
  · cases h
theorem decLeafInt {k : IntKind} {d : PD} {x : Int} (h : (SK.leaf (.int k)).dec d = some x) : d = .val (.int k x) := by
  simp only [SK.dec, decC] at h
  split at h
  · rename_i e
    cases e
    split at h
    · rename_i e2 _; subst e2; cases h; rfl
    · cases h
  · cases h
theorem lift_si_eq {F : List UInt8 × Int → Option (List UInt8)} (s : ByteArray) (n : Int) : (⟨[], [.s (.leaf .str), .s (.leaf (.int .i64))], [.str, .int .i64], [false], [.str], F⟩ : PSpec).lift [.val (.string s), .val (.int .i64 n)] =
    match F (s.data.toList, n) with
    | some y => some (.val (.string ⟨y.toArray⟩))
    | none => none := by kernel_rfl
theorem lift_si {F : List UInt8 × Int → Option (List UInt8)} {ds : List PD} {r : PD} (h : (⟨[], [.s (.leaf .str), .s (.leaf (.int .i64))], [.str, .int .i64], [false], [.str], F⟩ : PSpec).lift ds = some r) :
    ∃ s n y, ds = [.val (.string s), .val (.int .i64 n)] ∧ F (s.data.toList, n) = some y ∧ r = .val (.string ⟨y.toArray⟩) := by
  match ds, h with
  | [], h => cases h
  | [d], h =>
    simp only [PSpec.lift, decArgs] at h
    split at h <;> simp_all
  | d :: e :: g :: l, h =>
    simp only [PSpec.lift, decArgs] at h
    split at h <;> simp_all
  | [d, e], h =>
    have h0 := h
    simp only [PSpec.lift, decArgs, SA.dec] at h
    cases hd : (SK.leaf .str).dec d with
    | none => simp [hd] at h
    | some x =>
      cases he : (SK.leaf (.int .i64)).dec e with
      | none => simp [hd, he] at h
      | some n =>
        obtain ⟨s, rfl, rfl⟩ := decLeafStr hd
        have := decLeafInt he
        subst this
        have h2 := (lift_si_eq (F := F) s n).symm.trans h0
        cases hF : F (s.data.toList, n) with
        | none => rw [hF] at h2; cases h2
        | some y => rw [hF] at h2; cases h2; exact ⟨s, n, y, rfl, hF, rfl⟩
theorem C192 : EntOk Tryz.prog 192 (.p [S192 g192]) := EntOk.given (enters_of_B (by kernel_rfl)) p192 fun ds r h => by
  obtain ⟨s, n, y, rfl, hy, rfl⟩ := lift_si h
  simp only [g192] at hy
  split at hy
  · rename_i hb
    cases hy
    simp only [fPutInt]
    rw [if_pos (by simpa using hb)]
  · cases hy

def S166 (F : els [.str, .int .i64] → Option (els [.str])) : PSpec := ⟨[], [.s (.leaf .str), .s (.leaf (.int .i64))], [.str, .int .i64], [false], [.str], F⟩
def g166 (x : List UInt8 × Int) : Option (List UInt8) := if 0 ≤ x.2 ∧ x.2 ≤ 2 ^ 40 ∧ x.1.length * x.2.toNat ≤ 2 ^ 40 then some (repB x.2.toNat x.1) else none
theorem C166 : EntOk Tryz.prog 166 (.p [S166 g166]) := EntOk.given (enters_of_B (by kernel_rfl)) p166 fun ds r h => by
  obtain ⟨s, n, y, rfl, hy, rfl⟩ := lift_si h
  simp only [g166] at hy
  split at hy
  · rename_i hb
    cases hy
    simp only [fRepeat]
    rw [if_pos (by simpa using hb)]
  · cases hy

def S10 (F : els [] → Option (els [.bool])) : PSpec := ⟨[], [], [], [false], [.bool], F⟩
def g10 (_ : Unit) : Option Bool := some true
theorem C10 : EntOk Tryz.prog 10 (.p [S10 g10]) := EntOk.given (enters_of_B (by kernel_rfl)) sane_sound fun ds r h => by
  unfold PSpec.lift at h
  cases ds with
  | nil => exact h
  | cons d ds => simp [S10, decArgs] at h
end Go.Abs

/- Functions of the program, as functions. -/
namespace Go.Abs
open Go Go.Proofs
set_option maxRecDepth 100000
set_option maxHeartbeats 0
/-! 14 storagebarter / backup.Cut -/
def S14 (F : els [.str, (.int .i64)] → Option (els [(.sl .str), (.int .i64)])) : PSpec := ⟨[], [.s (.leaf .str), .s (.leaf (.int .i64))], [.str, (.int .i64)], [false, false], [(.sl .str), (.int .i64)], F⟩
def H14 : Hints := { loops := [(6, [.grow 6 0 .str])], regs := [(1, [.dat 8 .bool])] }
noncomputable def G14_1 (x2 : ((List (List UInt8)) × (Int × (List UInt8)))) : Option ((((List (List UInt8)) × (Int × (List UInt8)))) ⊕ (((List (List UInt8)) × Int))) :=
  (bif (decide (((((List.length x2.2.2) : Nat) : Int) > (0 : Int)))) then (guardT ((((0 : Int) ≤ (if ((((List.length x2.2.2) : Nat) : Int) < x2.2.1) then (((List.length x2.2.2) : Nat) : Int) else x2.2.1)) ∧ ((if ((((List.length x2.2.2) : Nat) : Int) < x2.2.1) then (((List.length x2.2.2) : Nat) : Int) else x2.2.1) ≤ (((List.length x2.2.2) : Nat) : Int)))) (guardT (((((List.length x2.1) + (List.length [(List.take (Int.toNat (if ((((List.length x2.2.2) : Nat) : Int) < x2.2.1) then (((List.length x2.2.2) : Nat) : Int) else x2.2.1)) x2.2.2)])) * ((16 : Nat) + (1 : Nat))) ≤ ((2 : Nat) ^ (40 : Nat)))) (guardT ((((0 : Int) ≤ (if ((((List.length x2.2.2) : Nat) : Int) < x2.2.1) then (((List.length x2.2.2) : Nat) : Int) else x2.2.1)) ∧ ((if ((((List.length x2.2.2) : Nat) : Int) < x2.2.1) then (((List.length x2.2.2) : Nat) : Int) else x2.2.1) ≤ (((List.length x2.2.2) : Nat) : Int)))) (some (Sum.inl ((x2.1 ++ [(List.take (Int.toNat (if ((((List.length x2.2.2) : Nat) : Int) < x2.2.1) then (((List.length x2.2.2) : Nat) : Int) else x2.2.1)) x2.2.2)]), (x2.2.1, (List.drop (Int.toNat (if ((((List.length x2.2.2) : Nat) : Int) < x2.2.1) then (((List.length x2.2.2) : Nat) : Int) else x2.2.1)) x2.2.2)))))))) else (some (Sum.inr (x2.1, (0 : Int)))))
noncomputable def G14 (x : ((List UInt8) × Int)) : Option (((List (List UInt8)) × Int)) :=
  ((bif (decide ((x.2 < (1 : Int)))) then (some (Bool.true, (x.2, x.1))) else (some ((decide ((x.2 > (1024 : Int)))), (x.2, x.1)))).bind (fun (x1 : (Bool × (Int × (List UInt8)))) => (bif x1.1 then (some (([] : List (List UInt8)), (1 : Int))) else (bif (decide (((((List.length x1.2.2) : Nat) : Int) > (IntKind.wrap IntKind.i64 (x1.2.1 * (16 : Int)))))) then (some (([] : List (List UInt8)), (4 : Int))) else (loopO G14_1 (([] : List (List UInt8)), (x1.2.1, x1.2.2)))))))
theorem E14 (x : els [.str, (.int .i64)]) : runT Tryz.prog (tgamOf []) 14 H14 [.s (.leaf .str), .s (.leaf (.int .i64))] [.str, (.int .i64)] [false, false] [(.sl .str), (.int .i64)] x = G14 x := by kernel_rfl
noncomputable def g14 : els [.str, (.int .i64)] → Option (els [(.sl .str), (.int .i64)]) := G14
theorem C14 : EntOk Tryz.prog 14 (.p [S14 g14]) := TabOk.addP mixed7 (T := []) trivial H14 (S14 g14) [] (by simp) (by kernel_rfl) (funext fun x => (E14 x).symm)
/-! 15 storagebarter / storagebarterref35.Cut -/
noncomputable def G15_1 (x2 : ((List (List UInt8)) × (Int × (Int × (List UInt8))))) : Option ((((List (List UInt8)) × (Int × (Int × (List UInt8))))) ⊕ (((List (List UInt8)) × Int))) :=
  (bif (decide ((x2.2.1 < (((List.length x2.2.2.2) : Nat) : Int)))) then (guardT ((((0 : Int) ≤ x2.2.1) ∧ ((x2.2.1 ≤ (if ((((List.length x2.2.2.2) : Nat) : Int) < (IntKind.wrap IntKind.i64 (x2.2.1 + x2.2.2.1))) then (((List.length x2.2.2.2) : Nat) : Int) else (IntKind.wrap IntKind.i64 (x2.2.1 + x2.2.2.1)))) ∧ ((if ((((List.length x2.2.2.2) : Nat) : Int) < (IntKind.wrap IntKind.i64 (x2.2.1 + x2.2.2.1))) then (((List.length x2.2.2.2) : Nat) : Int) else (IntKind.wrap IntKind.i64 (x2.2.1 + x2.2.2.1))) ≤ (((List.length x2.2.2.2) : Nat) : Int))))) (guardT (((((List.length x2.1) + (List.length [(List.take ((Int.toNat (if ((((List.length x2.2.2.2) : Nat) : Int) < (IntKind.wrap IntKind.i64 (x2.2.1 + x2.2.2.1))) then (((List.length x2.2.2.2) : Nat) : Int) else (IntKind.wrap IntKind.i64 (x2.2.1 + x2.2.2.1)))) - (Int.toNat x2.2.1)) (List.drop (Int.toNat x2.2.1) x2.2.2.2))])) * ((16 : Nat) + (1 : Nat))) ≤ ((2 : Nat) ^ (40 : Nat)))) (some (Sum.inl ((x2.1 ++ [(List.take ((Int.toNat (if ((((List.length x2.2.2.2) : Nat) : Int) < (IntKind.wrap IntKind.i64 (x2.2.1 + x2.2.2.1))) then (((List.length x2.2.2.2) : Nat) : Int) else (IntKind.wrap IntKind.i64 (x2.2.1 + x2.2.2.1)))) - (Int.toNat x2.2.1)) (List.drop (Int.toNat x2.2.1) x2.2.2.2))]), ((IntKind.wrap IntKind.i64 (x2.2.1 + x2.2.2.1)), (x2.2.2.1, x2.2.2.2))))))) else (some (Sum.inr (x2.1, (0 : Int)))))
noncomputable def G15 (x : ((List UInt8) × Int)) : Option (((List (List UInt8)) × Int)) :=
  ((bif (decide ((x.2 < (1 : Int)))) then (some (Bool.true, (x.2, x.1))) else (some ((decide ((x.2 > (1024 : Int)))), (x.2, x.1)))).bind (fun (x1 : (Bool × (Int × (List UInt8)))) => (bif x1.1 then (some (([] : List (List UInt8)), (1 : Int))) else (bif (decide (((((List.length x1.2.2) : Nat) : Int) > (IntKind.wrap IntKind.i64 (x1.2.1 * (16 : Int)))))) then (some (([] : List (List UInt8)), (4 : Int))) else (loopO G15_1 (([] : List (List UInt8)), ((0 : Int), (x1.2.1, x1.2.2))))))))
noncomputable def g15 : els [.str, (.int .i64)] → Option (els [(.sl .str), (.int .i64)]) := G15
/-! 43 storagebarter / backup.person -/
def S43 (F : els [(.int .i64)] → Option (els [.bool])) : PSpec := ⟨[], [.s (.leaf (.int .i64))], [(.int .i64)], [false], [.bool], F⟩
def H43 : Hints := { loops := [], regs := [(1, [.dat 2 .bool])] }
noncomputable def G43 (x : Int) : Option (Bool) :=
  ((bif (decide ((x ≥ (1 : Int)))) then (some (decide ((x ≤ (16 : Int))))) else (some Bool.false)).bind (fun (x1 : Bool) => (some x1)))
theorem E43 (x : els [(.int .i64)]) : runT Tryz.prog (tgamOf []) 43 H43 [.s (.leaf (.int .i64))] [(.int .i64)] [false] [.bool] x = G43 x := by kernel_rfl
noncomputable def g43 : els [(.int .i64)] → Option (els [.bool]) := G43
theorem C43 : EntOk Tryz.prog 43 (.p [S43 g43]) := TabOk.addP mixed7 (T := []) trivial H43 (S43 g43) [] (by simp) (by kernel_rfl) (funext fun x => (E43 x).symm)
/-! 44 storagebarter / erasure.Check -/
def S44 (F : els [(.pair (.int .i64) (.int .i64))] → Option (els [(.int .i64)])) : PSpec := ⟨[], [.s (.st (.pair (.int .i64) (.int .i64)))], [(.pair (.int .i64) (.int .i64))], [false], [(.int .i64)], F⟩
def H44 : Hints := { loops := [], regs := [(1, [.dat 17 .bool])] }
noncomputable def G44 (x : (Int × Int)) : Option (Int) :=
  ((bif (decide ((x.1 < (1 : Int)))) then (some Bool.true) else (bif (decide ((x.1 > x.2))) then (some Bool.true) else (some (decide ((x.2 > (16 : Int))))))).bind (fun (x1 : Bool) => (bif x1 then (some (1 : Int)) else (some (0 : Int)))))
theorem E44 (x : els [(.pair (.int .i64) (.int .i64))]) : runT Tryz.prog (tgamOf []) 44 H44 [.s (.st (.pair (.int .i64) (.int .i64)))] [(.pair (.int .i64) (.int .i64))] [false] [(.int .i64)] x = G44 x := by kernel_rfl
noncomputable def g44 : els [(.pair (.int .i64) (.int .i64))] → Option (els [(.int .i64)]) := G44
theorem C44 : EntOk Tryz.prog 44 (.p [S44 g44]) := TabOk.addP mixed7 (T := []) trivial H44 (S44 g44) [] (by simp) (by kernel_rfl) (funext fun x => (E44 x).symm)
/-! 52 storagebarter / backup.Has -/
def S52 (F : els [(.pair (.int .i64) (.pair (.int .i64) (.pair (.int .i64) (.pair (.sl (.pair (.pair (.int .i64) (.int .i64)) (.pair (.int .i64) (.sl (.int .i64))))) (.sl (.pair (.int .i64) (.pair (.int .i64) (.int .i64)))))))), (.int .i64), (.int .i64)] → Option (els [.bool])) : PSpec := ⟨[], [.s (.st (.pair (.int .i64) (.pair (.int .i64) (.pair (.int .i64) (.pair (.sl (.pair (.pair (.int .i64) (.int .i64)) (.pair (.int .i64) (.sl (.int .i64))))) (.sl (.pair (.int .i64) (.pair (.int .i64) (.int .i64))))))))), .s (.leaf (.int .i64)), .s (.leaf (.int .i64))], [(.pair (.int .i64) (.pair (.int .i64) (.pair (.int .i64) (.pair (.sl (.pair (.pair (.int .i64) (.int .i64)) (.pair (.int .i64) (.sl (.int .i64))))) (.sl (.pair (.int .i64) (.pair (.int .i64) (.int .i64)))))))), (.int .i64), (.int .i64)], [false], [.bool], F⟩
def H52 : Hints := { loops := [], regs := [(1, [.dat 6 .bool])] }
noncomputable def G52 (x : ((Int × (Int × (Int × ((List ((Int × Int) × (Int × (List Int)))) × (List (Int × (Int × Int))))))) × (Int × Int))) : Option (Bool) :=
  ((bif (decide ((x.2.1 ≥ (0 : Int)))) then (bif (decide ((x.2.1 < (((List.length x.1.2.2.2.1) : Nat) : Int)))) then (bif (decide ((x.2.2 ≥ (0 : Int)))) then (guardT (((0 : Int) ≤ x.2.1)) (x.1.2.2.2.1[(Int.toNat x.2.1)]?.bind (fun (x1 : ((Int × Int) × (Int × (List Int)))) => (some (decide ((x.2.2 < x1.1.2))))))) else (some Bool.false)) else (some Bool.false)) else (some Bool.false)).bind (fun (x2 : Bool) => (some x2)))
theorem E52 (x : els [(.pair (.int .i64) (.pair (.int .i64) (.pair (.int .i64) (.pair (.sl (.pair (.pair (.int .i64) (.int .i64)) (.pair (.int .i64) (.sl (.int .i64))))) (.sl (.pair (.int .i64) (.pair (.int .i64) (.int .i64)))))))), (.int .i64), (.int .i64)]) : runT Tryz.prog (tgamOf []) 52 H52 [.s (.st (.pair (.int .i64) (.pair (.int .i64) (.pair (.int .i64) (.pair (.sl (.pair (.pair (.int .i64) (.int .i64)) (.pair (.int .i64) (.sl (.int .i64))))) (.sl (.pair (.int .i64) (.pair (.int .i64) (.int .i64))))))))), .s (.leaf (.int .i64)), .s (.leaf (.int .i64))] [(.pair (.int .i64) (.pair (.int .i64) (.pair (.int .i64) (.pair (.sl (.pair (.pair (.int .i64) (.int .i64)) (.pair (.int .i64) (.sl (.int .i64))))) (.sl (.pair (.int .i64) (.pair (.int .i64) (.int .i64)))))))), (.int .i64), (.int .i64)] [false] [.bool] x = G52 x := by kernel_rfl
noncomputable def g52 : els [(.pair (.int .i64) (.pair (.int .i64) (.pair (.int .i64) (.pair (.sl (.pair (.pair (.int .i64) (.int .i64)) (.pair (.int .i64) (.sl (.int .i64))))) (.sl (.pair (.int .i64) (.pair (.int .i64) (.int .i64)))))))), (.int .i64), (.int .i64)] → Option (els [.bool]) := G52
theorem C52 : EntOk Tryz.prog 52 (.p [S52 g52]) := TabOk.addP mixed7 (T := []) trivial H52 (S52 g52) [] (by simp) (by kernel_rfl) (funext fun x => (E52 x).symm)
/-! 107 storagebarter / digest.Sum -/
def S107 (F : els [.str] → Option (els [(.int .i64)])) : PSpec := ⟨[], [.s (.leaf .str)], [.str], [false], [(.int .i64)], F⟩
def H107 : Hints := { loops := [(3, [])], regs := [] }
noncomputable def G107_1 (x1 : (Int × (Int × (Int × (List UInt8))))) : Option (((Int × (Int × (Int × (List UInt8))))) ⊕ (Int)) :=
  (bif (decide ((x1.1 < x1.2.1))) then (guardT (((0 : Int) ≤ x1.1)) (x1.2.2.2[(Int.toNat x1.1)]?.bind (fun (x2 : UInt8) => (guardT (((2147483647 : Int) ≠ (0 : Int))) (some (Sum.inl ((IntKind.wrap IntKind.i64 (x1.1 + (1 : Int))), (x1.2.1, ((Int.tmod (IntKind.wrap IntKind.i64 ((IntKind.wrap IntKind.i64 ((IntKind.wrap IntKind.i64 (x1.2.2.1 * (1000003 : Int))) + (IntKind.wrap IntKind.i64 (((UInt8.toNat x2) : Nat) : Int)))) + (1 : Int))) (2147483647 : Int)), x1.2.2.2))))))))) else (some (Sum.inr x1.2.2.1)))
noncomputable def G107 (x : (List UInt8)) : Option (Int) :=
  (loopO G107_1 ((0 : Int), ((((List.length x) : Nat) : Int), ((1 : Int), x))))
theorem E107 (x : els [.str]) : runT Tryz.prog (tgamOf []) 107 H107 [.s (.leaf .str)] [.str] [false] [(.int .i64)] x = G107 x := by kernel_rfl
noncomputable def g107 : els [.str] → Option (els [(.int .i64)]) := G107
theorem C107 : EntOk Tryz.prog 107 (.p [S107 g107]) := TabOk.addP mixed7 (T := []) trivial H107 (S107 g107) [] (by simp) (by kernel_rfl) (funext fun x => (E107 x).symm)
/-! 63 storagebarter / storagebarterref02.Sum -/
def S63 (F : els [.str] → Option (els [(.int .i64)])) : PSpec := ⟨[], [.s (.leaf .str)], [.str], [false], [(.int .i64)], F⟩
def H63 : Hints := { loops := [(3, [])], regs := [] }
noncomputable def G63_1 (x1 : (Int × (Int × (List UInt8)))) : Option (((Int × (Int × (List UInt8)))) ⊕ (Int)) :=
  (bif (decide ((x1.1 < (((List.length x1.2.2) : Nat) : Int)))) then (guardT (((0 : Int) ≤ x1.1)) (x1.2.2[(Int.toNat x1.1)]?.bind (fun (x2 : UInt8) => (guardT (((2147483647 : Int) ≠ (0 : Int))) (some (Sum.inl ((IntKind.wrap IntKind.i64 (x1.1 + (1 : Int))), ((Int.tmod (IntKind.wrap IntKind.i64 ((IntKind.wrap IntKind.i64 ((IntKind.wrap IntKind.i64 (x1.2.1 * (1000003 : Int))) + (IntKind.wrap IntKind.i64 (((UInt8.toNat x2) : Nat) : Int)))) + (1 : Int))) (2147483647 : Int)), x1.2.2)))))))) else (some (Sum.inr x1.2.1)))
noncomputable def G63 (x : (List UInt8)) : Option (Int) :=
  (loopO G63_1 ((0 : Int), ((1 : Int), x)))
theorem E63 (x : els [.str]) : runT Tryz.prog (tgamOf []) 63 H63 [.s (.leaf .str)] [.str] [false] [(.int .i64)] x = G63 x := by kernel_rfl
noncomputable def g63 : els [.str] → Option (els [(.int .i64)]) := G63
theorem C63 : EntOk Tryz.prog 63 (.p [S63 g63]) := TabOk.addP mixed7 (T := []) trivial H63 (S63 g63) [] (by simp) (by kernel_rfl) (funext fun x => (E63 x).symm)
/-! 188 (storagebarter / seal.key).valid -/
def S188 (F : els [(.int .i64)] → Option (els [.bool])) : PSpec := ⟨[], [.s (.leaf (.int .i64))], [(.int .i64)], [false], [.bool], F⟩
def H188 : Hints := { loops := [], regs := [(1, [.dat 2 .bool])] }
noncomputable def G188 (x : Int) : Option (Bool) :=
  ((bif (decide ((x ≥ (0 : Int)))) then (some (decide ((x < (4294967294 : Int))))) else (some Bool.false)).bind (fun (x1 : Bool) => (some x1)))
theorem E188 (x : els [(.int .i64)]) : runT Tryz.prog (tgamOf []) 188 H188 [.s (.leaf (.int .i64))] [(.int .i64)] [false] [.bool] x = G188 x := by kernel_rfl
noncomputable def g188 : els [(.int .i64)] → Option (els [.bool]) := G188
theorem C188 : EntOk Tryz.prog 188 (.p [S188 g188]) := TabOk.addP mixed7 (T := []) trivial H188 (S188 g188) [] (by simp) (by kernel_rfl) (funext fun x => (E188 x).symm)
/-! 189 (storagebarter / seal.key).lock -/
def S189 (F : els [(.int .i64)] → Option (els [(.int .i64)])) : PSpec := ⟨[], [.s (.leaf (.int .i64))], [(.int .i64)], [false], [(.int .i64)], F⟩
def H189 : Hints := { loops := [], regs := [] }
noncomputable def G189 (x : Int) : Option (Int) :=
  (some (IntKind.wrap IntKind.i64 ((IntKind.wrap IntKind.i64 ((3 : Int) * x)) + (1 : Int))))
theorem E189 (x : els [(.int .i64)]) : runT Tryz.prog (tgamOf []) 189 H189 [.s (.leaf (.int .i64))] [(.int .i64)] [false] [(.int .i64)] x = G189 x := by kernel_rfl
noncomputable def g189 : els [(.int .i64)] → Option (els [(.int .i64)]) := G189
theorem C189 : EntOk Tryz.prog 189 (.p [S189 g189]) := TabOk.addP mixed7 (T := []) trivial H189 (S189 g189) [] (by simp) (by kernel_rfl) (funext fun x => (E189 x).symm)
/-! 246 storagebarter / seal.keyOf -/
def S246 (F : els [(.int .i64)] → Option (els [(.int .i64), .bool])) : PSpec := ⟨[], [.s (.leaf (.int .i64))], [(.int .i64)], [false, false], [(.int .i64), .bool], F⟩
def H246 : Hints := { loops := [], regs := [(2, [.dat 2 (.int .i64), .dat 3 .bool])] }
noncomputable def G246 (f188 : (Int → (Option Bool))) (x : Int) : Option ((Int × Bool)) :=
  (guardT (((3 : Int) ≠ (0 : Int))) ((bif (decide ((x > (0 : Int)))) then (guardT (((3 : Int) ≠ (0 : Int))) (bif ((Int.tmod x (3 : Int)) == (1 : Int)) then ((f188 (IntKind.wrap IntKind.i64 (Int.tdiv x (3 : Int)))).bind (fun (x1 : Bool) => (some (x1, (IntKind.wrap IntKind.i64 (Int.tdiv x (3 : Int))))))) else (some (Bool.false, (IntKind.wrap IntKind.i64 (Int.tdiv x (3 : Int))))))) else (some (Bool.false, (IntKind.wrap IntKind.i64 (Int.tdiv x (3 : Int)))))).bind (fun (x2 : (Bool × Int)) => (some (x2.2, x2.1)))))
theorem E246 (f188 : els [(.int .i64)] → Option (els [.bool])) (x : els [(.int .i64)]) : runT Tryz.prog (tgamOf [(188, .p [S188 f188])]) 246 H246 [.s (.leaf (.int .i64))] [(.int .i64)] [false, false] [(.int .i64), .bool] x = G246 f188 x := by kernel_rfl
noncomputable def g246 : els [(.int .i64)] → Option (els [(.int .i64), .bool]) := G246 g188
theorem C246 : EntOk Tryz.prog 246 (.p [S246 g246]) := TabOk.addP mixed7 (T := [(188, .p [S188 g188])]) ⟨C188, trivial⟩ H246 (S246 g246) [] (by simp) (by kernel_rfl) (funext fun x => (E246 g188 x).symm)
/-! 190 storagebarter / seal.valid -/
def S190 (F : els [(.pair (.int .i64) .str)] → Option (els [.bool])) : PSpec := ⟨[], [.s (.st (.pair (.int .i64) .str))], [(.pair (.int .i64) .str)], [false], [.bool], F⟩
def H190 : Hints := { loops := [], regs := [(2, [.dat 2 .bool])] }
noncomputable def G190 (f246 : (Int → (Option (Int × Bool)))) (x : (Int × (List UInt8))) : Option (Bool) :=
  ((f246 x.1).bind (fun (x1 : (Int × Bool)) => ((bif x1.2 then (some (decide (((((List.length x.2) : Nat) : Int) ≤ (16384 : Int))))) else (some Bool.false)).bind (fun (x2 : Bool) => (some x2)))))
theorem E190 (f246 : els [(.int .i64)] → Option (els [(.int .i64), .bool])) (x : els [(.pair (.int .i64) .str)]) : runT Tryz.prog (tgamOf [(246, .p [S246 f246])]) 190 H190 [.s (.st (.pair (.int .i64) .str))] [(.pair (.int .i64) .str)] [false] [.bool] x = G190 f246 x := by kernel_rfl
noncomputable def g190 : els [(.pair (.int .i64) .str)] → Option (els [.bool]) := G190 g246
theorem C190 : EntOk Tryz.prog 190 (.p [S190 g190]) := TabOk.addP mixed7 (T := [(246, .p [S246 g246])]) ⟨C246, trivial⟩ H190 (S190 g190) [] (by simp) (by kernel_rfl) (funext fun x => (E190 g246 x).symm)
/-! 191 storagebarter / wire.PutText -/
def S191 (F : els [.str, .str] → Option (els [.str])) : PSpec := ⟨[], [.s (.leaf .str), .s (.leaf .str)], [.str, .str], [false], [.str], F⟩
def H191 : Hints := { loops := [], regs := [] }
noncomputable def G191 (f192 : (((List UInt8) × Int) → (Option (List UInt8)))) (x : ((List UInt8) × (List UInt8))) : Option ((List UInt8)) :=
  ((f192 (x.1, (((List.length x.2) : Nat) : Int))).bind (fun (x1 : (List UInt8)) => (guardT ((((List.length x1) + (List.length x.2)) ≤ ((2 : Nat) ^ (62 : Nat)))) (some (x1 ++ x.2)))))
theorem E191 (f192 : els [.str, (.int .i64)] → Option (els [.str])) (x : els [.str, .str]) : runT Tryz.prog (tgamOf [(192, .p [S192 f192])]) 191 H191 [.s (.leaf .str), .s (.leaf .str)] [.str, .str] [false] [.str] x = G191 f192 x := by kernel_rfl
noncomputable def g191 : els [.str, .str] → Option (els [.str]) := G191 g192
theorem C191 : EntOk Tryz.prog 191 (.p [S191 g191]) := TabOk.addP mixed7 (T := [(192, .p [S192 g192])]) ⟨C192, trivial⟩ H191 (S191 g191) [] (by simp) (by kernel_rfl) (funext fun x => (E191 g192 x).symm)
/-! 104 storagebarter / seal.Seal -/
def S104 (F : els [.str, (.int .i64)] → Option (els [(.pair (.int .i64) .str), (.int .i64)])) : PSpec := ⟨[], [.s (.leaf .str), .s (.leaf (.int .i64))], [.str, (.int .i64)], [true, false], [(.pair (.int .i64) .str), (.int .i64)], F⟩
def H104 : Hints := { loops := [], regs := [] }
noncomputable def G104 (f188 : (Int → (Option Bool))) (f189 : (Int → (Option Int))) (x : ((List UInt8) × Int)) : Option (((Int × (List UInt8)) × Int)) :=
  ((f188 x.2).bind (fun (x1 : Bool) => (bif (!x1) then (some (((0 : Int), (Array.toList (ByteArray.data (ByteArray.mk (List.toArray ([] : List UInt8)))))), (1 : Int))) else (bif (decide (((((List.length x.1) : Nat) : Int) > (16384 : Int)))) then (some (((0 : Int), (Array.toList (ByteArray.data (ByteArray.mk (List.toArray ([] : List UInt8)))))), (4 : Int))) else ((f189 x.2).bind (fun (x2 : Int) => (some ((x2, x.1), (0 : Int)))))))))
theorem E104 (f188 : els [(.int .i64)] → Option (els [.bool])) (f189 : els [(.int .i64)] → Option (els [(.int .i64)])) (x : els [.str, (.int .i64)]) : runT Tryz.prog (tgamOf [(188, .p [S188 f188]), (189, .p [S189 f189])]) 104 H104 [.s (.leaf .str), .s (.leaf (.int .i64))] [.str, (.int .i64)] [true, false] [(.pair (.int .i64) .str), (.int .i64)] x = G104 f188 f189 x := by kernel_rfl
noncomputable def g104 : els [.str, (.int .i64)] → Option (els [(.pair (.int .i64) .str), (.int .i64)]) := G104 g188 g189
theorem C104 : EntOk Tryz.prog 104 (.p [S104 g104]) := TabOk.addP mixed7 (T := [(188, .p [S188 g188]), (189, .p [S189 g189])]) ⟨C188, C189, trivial⟩ H104 (S104 g104) [] (by simp) (by kernel_rfl) (funext fun x => (E104 g188 g189 x).symm)
/-! 105 storagebarter / seal.Encode -/
def S105 (F : els [(.pair (.int .i64) .str)] → Option (els [.str, (.int .i64)])) : PSpec := ⟨[], [.s (.st (.pair (.int .i64) .str))], [(.pair (.int .i64) .str)], [false, false], [.str, (.int .i64)], F⟩
def H105 : Hints := { loops := [], regs := [] }
noncomputable def G105 (f190 : ((Int × (List UInt8)) → (Option Bool))) (f192 : (((List UInt8) × Int) → (Option (List UInt8)))) (f191 : (((List UInt8) × (List UInt8)) → (Option (List UInt8)))) (x : (Int × (List UInt8))) : Option (((List UInt8) × Int)) :=
  ((f190 (x.1, x.2)).bind (fun (x1 : Bool) => (bif (!x1) then (some ((Array.toList (ByteArray.data (ByteArray.mk (List.toArray ([] : List UInt8))))), (2 : Int))) else ((f192 ((Array.toList (ByteArray.data (ByteArray.mk (List.toArray ([] : List UInt8))))), x.1)).bind (fun (x2 : (List UInt8)) => ((f191 (x2, x.2)).bind (fun (x3 : (List UInt8)) => (some (x3, (0 : Int))))))))))
theorem E105 (f190 : els [(.pair (.int .i64) .str)] → Option (els [.bool])) (f192 : els [.str, (.int .i64)] → Option (els [.str])) (f191 : els [.str, .str] → Option (els [.str])) (x : els [(.pair (.int .i64) .str)]) : runT Tryz.prog (tgamOf [(190, .p [S190 f190]), (192, .p [S192 f192]), (191, .p [S191 f191])]) 105 H105 [.s (.st (.pair (.int .i64) .str))] [(.pair (.int .i64) .str)] [false, false] [.str, (.int .i64)] x = G105 f190 f192 f191 x := by kernel_rfl
noncomputable def g105 : els [(.pair (.int .i64) .str)] → Option (els [.str, (.int .i64)]) := G105 g190 g192 g191
theorem C105 : EntOk Tryz.prog 105 (.p [S105 g105]) := TabOk.addP mixed7 (T := [(190, .p [S190 g190]), (192, .p [S192 g192]), (191, .p [S191 g191])]) ⟨C190, C192, C191, trivial⟩ H105 (S105 g105) [] (by simp) (by kernel_rfl) (funext fun x => (E105 g190 g192 g191 x).symm)
/-! 112 storagebarter / erasure.Length -/
def S112 (F : els [(.pair (.int .i64) (.int .i64)), (.int .i64)] → Option (els [(.int .i64), (.int .i64)])) : PSpec := ⟨[], [.s (.st (.pair (.int .i64) (.int .i64))), .s (.leaf (.int .i64))], [(.pair (.int .i64) (.int .i64)), (.int .i64)], [false, false], [(.int .i64), (.int .i64)], F⟩
def H112 : Hints := { loops := [], regs := [] }
noncomputable def G112 (f44 : ((Int × Int) → (Option Int))) (x : ((Int × Int) × Int)) : Option ((Int × Int)) :=
  ((f44 (x.1.1, x.1.2)).bind (fun (x1 : Int) => (bif (x1 != (0 : Int)) then (some ((0 : Int), x1)) else (bif (decide ((x.2 < (0 : Int)))) then (some ((0 : Int), (1 : Int))) else (guardT ((x.1.1 ≠ (0 : Int))) (guardT ((x.1.1 ≠ (0 : Int))) (bif (decide (((Int.tmod x.2 x.1.1) > (0 : Int)))) then (bif (decide (((IntKind.wrap IntKind.i64 ((IntKind.wrap IntKind.i64 (Int.tdiv x.2 x.1.1)) + (1 : Int))) > (1024 : Int)))) then (some ((0 : Int), (4 : Int))) else (some ((IntKind.wrap IntKind.i64 ((IntKind.wrap IntKind.i64 (Int.tdiv x.2 x.1.1)) + (1 : Int))), (0 : Int)))) else (bif (decide (((IntKind.wrap IntKind.i64 (Int.tdiv x.2 x.1.1)) > (1024 : Int)))) then (some ((0 : Int), (4 : Int))) else (some ((IntKind.wrap IntKind.i64 (Int.tdiv x.2 x.1.1)), (0 : Int)))))))))))
theorem E112 (f44 : els [(.pair (.int .i64) (.int .i64))] → Option (els [(.int .i64)])) (x : els [(.pair (.int .i64) (.int .i64)), (.int .i64)]) : runT Tryz.prog (tgamOf [(44, .p [S44 f44])]) 112 H112 [.s (.st (.pair (.int .i64) (.int .i64))), .s (.leaf (.int .i64))] [(.pair (.int .i64) (.int .i64)), (.int .i64)] [false, false] [(.int .i64), (.int .i64)] x = G112 f44 x := by kernel_rfl
noncomputable def g112 : els [(.pair (.int .i64) (.int .i64)), (.int .i64)] → Option (els [(.int .i64), (.int .i64)]) := G112 g44
theorem C112 : EntOk Tryz.prog 112 (.p [S112 g112]) := TabOk.addP mixed7 (T := [(44, .p [S44 g44])]) ⟨C44, trivial⟩ H112 (S112 g112) [] (by simp) (by kernel_rfl) (funext fun x => (E112 g44 x).symm)
/-! 201 cmp.isNaN[int] -/
def S201 (F : els [(.int .i64)] → Option (els [.bool])) : PSpec := ⟨[], [.s (.leaf (.int .i64))], [(.int .i64)], [false], [.bool], F⟩
def H201 : Hints := { loops := [], regs := [] }
noncomputable def G201 (x : Int) : Option (Bool) :=
  (some (x != x))
theorem E201 (x : els [(.int .i64)]) : runT Tryz.prog (tgamOf []) 201 H201 [.s (.leaf (.int .i64))] [(.int .i64)] [false] [.bool] x = G201 x := by kernel_rfl
noncomputable def g201 : els [(.int .i64)] → Option (els [.bool]) := G201
theorem C201 : EntOk Tryz.prog 201 (.p [S201 g201]) := TabOk.addP mixed7 (T := []) trivial H201 (S201 g201) [] (by simp) (by kernel_rfl) (funext fun x => (E201 x).symm)
/-! 115 cmp.Compare[int] -/
def S115 (F : els [(.int .i64), (.int .i64)] → Option (els [(.int .i64)])) : PSpec := ⟨[], [.s (.leaf (.int .i64)), .s (.leaf (.int .i64))], [(.int .i64), (.int .i64)], [false], [(.int .i64)], F⟩
def H115 : Hints := { loops := [], regs := [] }
noncomputable def G115 (f201 : (Int → (Option Bool))) (x : (Int × Int)) : Option (Int) :=
  ((f201 x.1).bind (fun (x1 : Bool) => ((f201 x.2).bind (fun (x2 : Bool) => (bif x1 then (bif x2 then (some (0 : Int)) else (some (Neg.neg (1 : Int)))) else (bif x2 then (some (1 : Int)) else (bif (decide ((x.1 < x.2))) then (some (Neg.neg (1 : Int))) else (bif (decide ((x.1 > x.2))) then (some (1 : Int)) else (some (0 : Int))))))))))
theorem E115 (f201 : els [(.int .i64)] → Option (els [.bool])) (x : els [(.int .i64), (.int .i64)]) : runT Tryz.prog (tgamOf [(201, .p [S201 f201])]) 115 H115 [.s (.leaf (.int .i64)), .s (.leaf (.int .i64))] [(.int .i64), (.int .i64)] [false] [(.int .i64)] x = G115 f201 x := by kernel_rfl
noncomputable def g115 : els [(.int .i64), (.int .i64)] → Option (els [(.int .i64)]) := G115 g201
theorem C115 : EntOk Tryz.prog 115 (.p [S115 g115]) := TabOk.addP mixed7 (T := [(201, .p [S201 g201])]) ⟨C201, trivial⟩ H115 (S115 g115) [] (by simp) (by kernel_rfl) (funext fun x => (E115 g201 x).symm)
/-! 114 cmp.Or[int] -/
def S114 (F : els [(.sl (.int .i64))] → Option (els [(.int .i64)])) : PSpec := ⟨[], [.s (.leaf (.sl (.int .i64)))], [(.sl (.int .i64))], [false], [(.int .i64)], F⟩
def H114 : Hints := { loops := [(3, [])], regs := [] }
noncomputable def G114_1 (x1 : (Int × (Int × ((List Int) × Int)))) : Option (((Int × (Int × ((List Int) × Int)))) ⊕ (Int)) :=
  (bif (decide ((x1.1 < x1.2.1))) then (guardT (((0 : Int) ≤ x1.1)) (x1.2.2.1[(Int.toNat x1.1)]?.bind (fun (x2 : Int) => (bif (x2 != x1.2.2.2) then (some (Sum.inr x2)) else (some (Sum.inl ((IntKind.wrap IntKind.i64 (x1.1 + (1 : Int))), (x1.2.1, (x1.2.2.1, x1.2.2.2))))))))) else (some (Sum.inr x1.2.2.2)))
noncomputable def G114 (x : (List Int)) : Option (Int) :=
  (loopO G114_1 ((0 : Int), ((((List.length x) : Nat) : Int), (x, (0 : Int)))))
theorem E114 (x : els [(.sl (.int .i64))]) : runT Tryz.prog (tgamOf []) 114 H114 [.s (.leaf (.sl (.int .i64)))] [(.sl (.int .i64))] [false] [(.int .i64)] x = G114 x := by kernel_rfl
noncomputable def g114 : els [(.sl (.int .i64))] → Option (els [(.int .i64)]) := G114
theorem C114 : EntOk Tryz.prog 114 (.p [S114 g114]) := TabOk.addP mixed7 (T := []) trivial H114 (S114 g114) [] (by simp) (by kernel_rfl) (funext fun x => (E114 x).symm)
/-! 51 storagebarter / backup.order -/
def S51 (F : els [(.pair (.int .i64) (.pair (.int .i64) (.int .i64))), (.pair (.int .i64) (.pair (.int .i64) (.int .i64)))] → Option (els [(.int .i64)])) : PSpec := ⟨[], [.s (.st (.pair (.int .i64) (.pair (.int .i64) (.int .i64)))), .s (.st (.pair (.int .i64) (.pair (.int .i64) (.int .i64))))], [(.pair (.int .i64) (.pair (.int .i64) (.int .i64))), (.pair (.int .i64) (.pair (.int .i64) (.int .i64)))], [false], [(.int .i64)], F⟩
def H51 : Hints := { loops := [], regs := [] }
noncomputable def G51 (f115 : ((Int × Int) → (Option Int))) (f114 : ((List Int) → (Option Int))) (x : ((Int × (Int × Int)) × (Int × (Int × Int)))) : Option (Int) :=
  ((f115 (x.1.1, x.2.1)).bind (fun (x1 : Int) => ((f115 (x.1.2.1, x.2.2.1)).bind (fun (x2 : Int) => ((f114 [x1, x2]).bind (fun (x3 : Int) => (some x3)))))))
theorem E51 (f115 : els [(.int .i64), (.int .i64)] → Option (els [(.int .i64)])) (f114 : els [(.sl (.int .i64))] → Option (els [(.int .i64)])) (x : els [(.pair (.int .i64) (.pair (.int .i64) (.int .i64))), (.pair (.int .i64) (.pair (.int .i64) (.int .i64)))]) : runT Tryz.prog (tgamOf [(115, .p [S115 f115]), (114, .p [S114 f114])]) 51 H51 [.s (.st (.pair (.int .i64) (.pair (.int .i64) (.int .i64)))), .s (.st (.pair (.int .i64) (.pair (.int .i64) (.int .i64))))] [(.pair (.int .i64) (.pair (.int .i64) (.int .i64))), (.pair (.int .i64) (.pair (.int .i64) (.int .i64)))] [false] [(.int .i64)] x = G51 f115 f114 x := by kernel_rfl
noncomputable def g51 : els [(.pair (.int .i64) (.pair (.int .i64) (.int .i64))), (.pair (.int .i64) (.pair (.int .i64) (.int .i64)))] → Option (els [(.int .i64)]) := G51 g115 g114
theorem C51 : EntOk Tryz.prog 51 (.p [S51 g51]) := TabOk.addP mixed7 (T := [(115, .p [S115 g115]), (114, .p [S114 g114])]) ⟨C115, C114, trivial⟩ H51 (S51 g51) [] (by simp) (by kernel_rfl) (funext fun x => (E51 g115 g114 x).symm)
/-! 365 storagebarter / field.element -/
def S365 (F : els [(.int .i64)] → Option (els [.bool])) : PSpec := ⟨[], [.s (.leaf (.int .i64))], [(.int .i64)], [false], [.bool], F⟩
def H365 : Hints := { loops := [], regs := [(1, [.dat 2 .bool])] }
noncomputable def G365 (x : Int) : Option (Bool) :=
  ((bif (decide ((x ≥ (0 : Int)))) then (some (decide ((x < (16 : Int))))) else (some Bool.false)).bind (fun (x1 : Bool) => (some x1)))
theorem E365 (x : els [(.int .i64)]) : runT Tryz.prog (tgamOf []) 365 H365 [.s (.leaf (.int .i64))] [(.int .i64)] [false] [.bool] x = G365 x := by kernel_rfl
noncomputable def g365 : els [(.int .i64)] → Option (els [.bool]) := G365
theorem C365 : EntOk Tryz.prog 365 (.p [S365 g365]) := TabOk.addP mixed7 (T := []) trivial H365 (S365 g365) [] (by simp) (by kernel_rfl) (funext fun x => (E365 x).symm)
/-! 366 storagebarter / field.times -/
def S366 (F : els [(.int .i64), (.int .i64)] → Option (els [(.int .i64)])) : PSpec := ⟨[], [.s (.leaf (.int .i64)), .s (.leaf (.int .i64))], [(.int .i64), (.int .i64)], [false], [(.int .i64)], F⟩
def H366 : Hints := { loops := [(2, [])], regs := [] }
noncomputable def G366_1 (x1 : (Int × (Int × Int))) : Option (((Int × (Int × Int))) ⊕ (Int)) :=
  (bif (decide ((x1.2.1 > (0 : Int)))) then (bif ((IntKind.wrap IntKind.i64 (((BitVec.toNat ((BitVec.ofInt (IntKind.bits IntKind.i64) x1.2.1) &&& (BitVec.ofInt (IntKind.bits IntKind.i64) (1 : Int)))) : Nat) : Int)) == (1 : Int)) then (guardT (((0 : Int) ≤ (1 : Int))) (bif (decide (((IntKind.wrap IntKind.i64 (x1.2.2 * ((2 : Int) ^ (Min.min (Int.toNat (1 : Int)) (IntKind.bits IntKind.i64))))) > (15 : Int)))) then (guardT (((0 : Int) ≤ (1 : Int))) (some (Sum.inl ((IntKind.wrap IntKind.i64 (((BitVec.toNat ((BitVec.ofInt (IntKind.bits IntKind.i64) x1.1) ^^^ (BitVec.ofInt (IntKind.bits IntKind.i64) x1.2.2))) : Nat) : Int)), ((Int.fdiv x1.2.1 ((2 : Int) ^ (Min.min (Int.toNat (1 : Int)) (IntKind.bits IntKind.i64)))), (IntKind.wrap IntKind.i64 (((BitVec.toNat ((BitVec.ofInt (IntKind.bits IntKind.i64) (IntKind.wrap IntKind.i64 (x1.2.2 * ((2 : Int) ^ (Min.min (Int.toNat (1 : Int)) (IntKind.bits IntKind.i64)))))) ^^^ (BitVec.ofInt (IntKind.bits IntKind.i64) (19 : Int)))) : Nat) : Int))))))) else (guardT (((0 : Int) ≤ (1 : Int))) (some (Sum.inl ((IntKind.wrap IntKind.i64 (((BitVec.toNat ((BitVec.ofInt (IntKind.bits IntKind.i64) x1.1) ^^^ (BitVec.ofInt (IntKind.bits IntKind.i64) x1.2.2))) : Nat) : Int)), ((Int.fdiv x1.2.1 ((2 : Int) ^ (Min.min (Int.toNat (1 : Int)) (IntKind.bits IntKind.i64)))), (IntKind.wrap IntKind.i64 (x1.2.2 * ((2 : Int) ^ (Min.min (Int.toNat (1 : Int)) (IntKind.bits IntKind.i64)))))))))))) else (guardT (((0 : Int) ≤ (1 : Int))) (bif (decide (((IntKind.wrap IntKind.i64 (x1.2.2 * ((2 : Int) ^ (Min.min (Int.toNat (1 : Int)) (IntKind.bits IntKind.i64))))) > (15 : Int)))) then (guardT (((0 : Int) ≤ (1 : Int))) (some (Sum.inl (x1.1, ((Int.fdiv x1.2.1 ((2 : Int) ^ (Min.min (Int.toNat (1 : Int)) (IntKind.bits IntKind.i64)))), (IntKind.wrap IntKind.i64 (((BitVec.toNat ((BitVec.ofInt (IntKind.bits IntKind.i64) (IntKind.wrap IntKind.i64 (x1.2.2 * ((2 : Int) ^ (Min.min (Int.toNat (1 : Int)) (IntKind.bits IntKind.i64)))))) ^^^ (BitVec.ofInt (IntKind.bits IntKind.i64) (19 : Int)))) : Nat) : Int))))))) else (guardT (((0 : Int) ≤ (1 : Int))) (some (Sum.inl (x1.1, ((Int.fdiv x1.2.1 ((2 : Int) ^ (Min.min (Int.toNat (1 : Int)) (IntKind.bits IntKind.i64)))), (IntKind.wrap IntKind.i64 (x1.2.2 * ((2 : Int) ^ (Min.min (Int.toNat (1 : Int)) (IntKind.bits IntKind.i64))))))))))))) else (some (Sum.inr x1.1)))
noncomputable def G366 (x : (Int × Int)) : Option (Int) :=
  (loopO G366_1 ((0 : Int), (x.2, x.1)))
theorem E366 (x : els [(.int .i64), (.int .i64)]) : runT Tryz.prog (tgamOf []) 366 H366 [.s (.leaf (.int .i64)), .s (.leaf (.int .i64))] [(.int .i64), (.int .i64)] [false] [(.int .i64)] x = G366 x := by kernel_rfl
noncomputable def g366 : els [(.int .i64), (.int .i64)] → Option (els [(.int .i64)]) := G366
theorem C366 : EntOk Tryz.prog 366 (.p [S366 g366]) := TabOk.addP mixed7 (T := []) trivial H366 (S366 g366) [] (by simp) (by kernel_rfl) (funext fun x => (E366 x).symm)
/-! 349 storagebarter / field.Power -/
def S349 (F : els [(.int .i64), (.int .i64)] → Option (els [(.int .i64), (.int .i64)])) : PSpec := ⟨[], [.s (.leaf (.int .i64)), .s (.leaf (.int .i64))], [(.int .i64), (.int .i64)], [false, false], [(.int .i64), (.int .i64)], F⟩
def H349 : Hints := { loops := [(11, [])], regs := [(5, [.dat 14 .bool])] }
noncomputable def G349_1 (f366 : ((Int × Int) → (Option Int))) (x3 : (Int × (Int × (Int × Int)))) : Option (((Int × (Int × (Int × Int)))) ⊕ ((Int × Int))) :=
  (bif (decide ((x3.1 < x3.2.1))) then ((f366 (x3.2.2.1, x3.2.2.2)).bind (fun (x4 : Int) => (some (Sum.inl ((IntKind.wrap IntKind.i64 (x3.1 + (1 : Int))), (x3.2.1, (x4, x3.2.2.2))))))) else (some (Sum.inr (x3.2.2.1, (0 : Int)))))
noncomputable def G349 (f365 : (Int → (Option Bool))) (f366 : ((Int × Int) → (Option Int))) (x : (Int × Int)) : Option ((Int × Int)) :=
  ((f365 x.1).bind (fun (x1 : Bool) => (bif (!x1) then (some ((0 : Int), (1 : Int))) else (bif (x.2 == (0 : Int)) then (some ((1 : Int), (0 : Int))) else ((bif (x.1 == (0 : Int)) then (some ((decide ((x.2 < (0 : Int)))), (x.2, x.1))) else (some (Bool.false, (x.2, x.1)))).bind (fun (x2 : (Bool × (Int × Int))) => (bif x2.1 then (some ((0 : Int), (6 : Int))) else (bif (x2.2.2 == (0 : Int)) then (some ((0 : Int), (0 : Int))) else (guardT (((15 : Int) ≠ (0 : Int))) (guardT (((15 : Int) ≠ (0 : Int))) (loopO (G349_1 f366) ((0 : Int), ((Int.tmod (IntKind.wrap IntKind.i64 ((Int.tmod x2.2.1 (15 : Int)) + (15 : Int))) (15 : Int)), ((1 : Int), x2.2.2))))))))))))))
theorem E349 (f365 : els [(.int .i64)] → Option (els [.bool])) (f366 : els [(.int .i64), (.int .i64)] → Option (els [(.int .i64)])) (x : els [(.int .i64), (.int .i64)]) : runT Tryz.prog (tgamOf [(365, .p [S365 f365]), (366, .p [S366 f366])]) 349 H349 [.s (.leaf (.int .i64)), .s (.leaf (.int .i64))] [(.int .i64), (.int .i64)] [false, false] [(.int .i64), (.int .i64)] x = G349 f365 f366 x := by kernel_rfl
noncomputable def g349 : els [(.int .i64), (.int .i64)] → Option (els [(.int .i64), (.int .i64)]) := G349 g365 g366
theorem C349 : EntOk Tryz.prog 349 (.p [S349 g349]) := TabOk.addP mixed7 (T := [(365, .p [S365 g365]), (366, .p [S366 g366])]) ⟨C365, C366, trivial⟩ H349 (S349 g349) [] (by simp) (by kernel_rfl) (funext fun x => (E349 g365 g366 x).symm)
/-! 350 storagebarter / field.Mul -/
def S350 (F : els [(.int .i64), (.int .i64)] → Option (els [(.int .i64), (.int .i64)])) : PSpec := ⟨[], [.s (.leaf (.int .i64)), .s (.leaf (.int .i64))], [(.int .i64), (.int .i64)], [false, false], [(.int .i64), (.int .i64)], F⟩
def H350 : Hints := { loops := [], regs := [(1, [.dat 13 .bool])] }
noncomputable def G350 (f365 : (Int → (Option Bool))) (f366 : ((Int × Int) → (Option Int))) (x : (Int × Int)) : Option ((Int × Int)) :=
  (((f365 x.1).bind (fun (x1 : Bool) => (bif (!x1) then (some (Bool.true, (x.2, x.1))) else ((f365 x.2).bind (fun (x2 : Bool) => (some ((!x2), (x.2, x.1)))))))).bind (fun (x3 : (Bool × (Int × Int))) => (bif x3.1 then (some ((0 : Int), (1 : Int))) else ((f366 (x3.2.2, x3.2.1)).bind (fun (x4 : Int) => (some (x4, (0 : Int))))))))
theorem E350 (f365 : els [(.int .i64)] → Option (els [.bool])) (f366 : els [(.int .i64), (.int .i64)] → Option (els [(.int .i64)])) (x : els [(.int .i64), (.int .i64)]) : runT Tryz.prog (tgamOf [(365, .p [S365 f365]), (366, .p [S366 f366])]) 350 H350 [.s (.leaf (.int .i64)), .s (.leaf (.int .i64))] [(.int .i64), (.int .i64)] [false, false] [(.int .i64), (.int .i64)] x = G350 f365 f366 x := by kernel_rfl
noncomputable def g350 : els [(.int .i64), (.int .i64)] → Option (els [(.int .i64), (.int .i64)]) := G350 g365 g366
theorem C350 : EntOk Tryz.prog 350 (.p [S350 g350]) := TabOk.addP mixed7 (T := [(365, .p [S365 g365]), (366, .p [S366 g366])]) ⟨C365, C366, trivial⟩ H350 (S350 g350) [] (by simp) (by kernel_rfl) (funext fun x => (E350 g365 g366 x).symm)
/-! 306 storagebarter / erasure.mul -/
def S306 (F : els [(.int .i64), (.int .i64)] → Option (els [(.int .i64)])) : PSpec := ⟨[], [.s (.leaf (.int .i64)), .s (.leaf (.int .i64))], [(.int .i64), (.int .i64)], [false], [(.int .i64)], F⟩
def H306 : Hints := { loops := [], regs := [] }
noncomputable def G306 (f350 : ((Int × Int) → (Option (Int × Int)))) (x : (Int × Int)) : Option (Int) :=
  ((f350 (x.1, x.2)).bind (fun (x1 : (Int × Int)) => (some x1.1)))
theorem E306 (f350 : els [(.int .i64), (.int .i64)] → Option (els [(.int .i64), (.int .i64)])) (x : els [(.int .i64), (.int .i64)]) : runT Tryz.prog (tgamOf [(350, .p [S350 f350])]) 306 H306 [.s (.leaf (.int .i64)), .s (.leaf (.int .i64))] [(.int .i64), (.int .i64)] [false] [(.int .i64)] x = G306 f350 x := by kernel_rfl
noncomputable def g306 : els [(.int .i64), (.int .i64)] → Option (els [(.int .i64)]) := G306 g350
theorem C306 : EntOk Tryz.prog 306 (.p [S306 g306]) := TabOk.addP mixed7 (T := [(350, .p [S350 g350])]) ⟨C350, trivial⟩ H306 (S306 g306) [] (by simp) (by kernel_rfl) (funext fun x => (E306 g350 x).symm)
/-! 305 storagebarter / erasure.halves[int] -/
def S305 (F : els [(.int .i64)] → Option (els [(.int .i64), (.int .i64)])) : PSpec := ⟨[], [.s (.leaf (.int .i64))], [(.int .i64)], [false, false], [(.int .i64), (.int .i64)], F⟩
def H305 : Hints := { loops := [], regs := [] }
noncomputable def G305 (x : Int) : Option ((Int × Int)) :=
  (guardT (((0 : Int) ≤ (4 : Int))) (some ((IntKind.wrap IntKind.i64 (((BitVec.toNat ((BitVec.ofInt (IntKind.bits IntKind.i64) x) &&& (BitVec.ofInt (IntKind.bits IntKind.i64) (15 : Int)))) : Nat) : Int)), (IntKind.wrap IntKind.i64 (((BitVec.toNat ((BitVec.ofInt (IntKind.bits IntKind.i64) (Int.fdiv x ((2 : Int) ^ (Min.min (Int.toNat (4 : Int)) (IntKind.bits IntKind.i64))))) &&& (BitVec.ofInt (IntKind.bits IntKind.i64) (15 : Int)))) : Nat) : Int)))))
theorem E305 (x : els [(.int .i64)]) : runT Tryz.prog (tgamOf []) 305 H305 [.s (.leaf (.int .i64))] [(.int .i64)] [false, false] [(.int .i64), (.int .i64)] x = G305 x := by kernel_rfl
noncomputable def g305 : els [(.int .i64)] → Option (els [(.int .i64), (.int .i64)]) := G305
theorem C305 : EntOk Tryz.prog 305 (.p [S305 g305]) := TabOk.addP mixed7 (T := []) trivial H305 (S305 g305) [] (by simp) (by kernel_rfl) (funext fun x => (E305 x).symm)
/-! 304 storagebarter / field.Inverse -/
def S304 (F : els [(.int .i64)] → Option (els [(.int .i64), (.int .i64)])) : PSpec := ⟨[], [.s (.leaf (.int .i64))], [(.int .i64)], [false, false], [(.int .i64), (.int .i64)], F⟩
def H304 : Hints := { loops := [], regs := [] }
noncomputable def G304 (f349 : ((Int × Int) → (Option (Int × Int)))) (x : Int) : Option ((Int × Int)) :=
  ((f349 (x, (Neg.neg (1 : Int)))).bind (fun (x1 : (Int × Int)) => (some (x1.1, x1.2))))
theorem E304 (f349 : els [(.int .i64), (.int .i64)] → Option (els [(.int .i64), (.int .i64)])) (x : els [(.int .i64)]) : runT Tryz.prog (tgamOf [(349, .p [S349 f349])]) 304 H304 [.s (.leaf (.int .i64))] [(.int .i64)] [false, false] [(.int .i64), (.int .i64)] x = G304 f349 x := by kernel_rfl
noncomputable def g304 : els [(.int .i64)] → Option (els [(.int .i64), (.int .i64)]) := G304 g349
theorem C304 : EntOk Tryz.prog 304 (.p [S304 g304]) := TabOk.addP mixed7 (T := [(349, .p [S349 g349])]) ⟨C349, trivial⟩ H304 (S304 g304) [] (by simp) (by kernel_rfl) (funext fun x => (E304 g349 x).symm)
/-! 249 storagebarter / matrix.Cauchy -/
def S249 (F : els [(.int .i64), (.int .i64)] → Option (els [(.pair (.int .i64) (.pair (.int .i64) (.sl (.int .i64)))), (.int .i64)])) : PSpec := ⟨[], [.s (.leaf (.int .i64)), .s (.leaf (.int .i64))], [(.int .i64), (.int .i64)], [true, false], [(.pair (.int .i64) (.pair (.int .i64) (.sl (.int .i64)))), (.int .i64)], F⟩
def H249 : Hints := { loops := [(5, [.growC 6 2 0 (.int .i64)]), (8, [.growC 6 2 1 (.int .i64)])], regs := [(1, [.dat 30 .bool])] }
noncomputable def G249_2 (f304 : (Int → (Option (Int × Int)))) (x3 : ((List Int) × (Int × (Int × (Int × (Int × (Int × (Int × (Int × (Int × (Int × (Int × Int)))))))))))) : Option ((((List Int) × (Int × (Int × (Int × (Int × (Int × (Int × (Int × (Int × (Int × (Int × Int)))))))))))) ⊕ ((((List Int) × (Int × (Int × (Int × (Int × (Int × (Int × (Int × Int)))))))) ⊕ ((Int × (Int × (List Int))) × Int)))) :=
  (bif (decide ((x3.2.1 < x3.2.2.1))) then ((f304 (IntKind.wrap IntKind.i64 (((BitVec.toNat ((BitVec.ofInt (IntKind.bits IntKind.i64) x3.2.2.2.2.2.1) ^^^ (BitVec.ofInt (IntKind.bits IntKind.i64) (IntKind.wrap IntKind.i64 (x3.2.2.2.2.2.2.2.1 + x3.2.1))))) : Nat) : Int))).bind (fun (x4 : (Int × Int)) => (guardT (((((List.length x3.1) + (List.length [x4.1])) * ((8 : Nat) + (1 : Nat))) ≤ ((2 : Nat) ^ (40 : Nat)))) (some (Sum.inl ((x3.1 ++ [x4.1]), ((IntKind.wrap IntKind.i64 (x3.2.1 + (1 : Int))), (x3.2.2.1, (x3.2.2.2.1, (x3.2.2.2.2.1, (x3.2.2.2.2.2.1, (x3.2.2.2.2.2.2.1, (x3.2.2.2.2.2.2.2.1, (x3.2.2.2.2.2.2.2.2.1, (x3.2.2.2.2.2.2.2.2.2.1, (x3.2.2.2.2.2.2.2.2.2.2.1, x3.2.2.2.2.2.2.2.2.2.2.2)))))))))))))))) else (some (Sum.inr (Sum.inl (x3.1, ((IntKind.wrap IntKind.i64 (x3.2.2.2.1 + (1 : Int))), (x3.2.2.2.2.1, (x3.2.2.2.2.2.2.1, (x3.2.2.2.2.2.2.2.1, (x3.2.2.2.2.2.2.2.2.1, (x3.2.2.2.2.2.2.2.2.2.1, (x3.2.2.2.2.2.2.2.2.2.2.1, x3.2.2.2.2.2.2.2.2.2.2.2))))))))))))
noncomputable def G249_1 (f304 : (Int → (Option (Int × Int)))) (x2 : ((List Int) × (Int × (Int × (Int × (Int × (Int × (Int × (Int × Int))))))))) : Option ((((List Int) × (Int × (Int × (Int × (Int × (Int × (Int × (Int × Int))))))))) ⊕ (((Int × (Int × (List Int))) × Int))) :=
  (bif (decide ((x2.2.1 < x2.2.2.1))) then (loopO (G249_2 f304) (x2.1, ((0 : Int), (x2.2.2.2.1, (x2.2.1, (x2.2.2.1, (x2.2.1, (x2.2.2.2.1, (x2.2.2.2.2.1, (x2.2.2.2.2.2.1, (x2.2.2.2.2.2.2.1, (x2.2.2.2.2.2.2.2.1, x2.2.2.2.2.2.2.2.2)))))))))))) else (some (Sum.inr ((x2.2.2.2.2.2.1, (x2.2.2.2.2.2.2.1, x2.1)), (0 : Int)))))
noncomputable def G249 (f304 : (Int → (Option (Int × Int)))) (x : (Int × Int)) : Option (((Int × (Int × (List Int))) × Int)) :=
  ((bif (decide ((x.1 < (1 : Int)))) then (some (Bool.true, (x.2, (x.1, ((0 : Int), (0 : Int)))))) else (bif (decide ((x.2 < (1 : Int)))) then (some (Bool.true, (x.2, (x.1, ((0 : Int), (0 : Int)))))) else (bif (decide ((x.1 > (16 : Int)))) then (some (Bool.true, (x.2, (x.1, ((0 : Int), (0 : Int)))))) else (bif (decide ((x.2 > (16 : Int)))) then (some (Bool.true, (x.2, (x.1, ((0 : Int), (0 : Int)))))) else (some ((decide (((IntKind.wrap IntKind.i64 (x.1 + x.2)) > (16 : Int)))), (x.2, (x.1, ((0 : Int), (0 : Int)))))))))).bind (fun (x1 : (Bool × (Int × (Int × (Int × Int))))) => (bif x1.1 then (some (((0 : Int), ((0 : Int), ([] : List Int))), (1 : Int))) else (loopO (G249_1 f304) (([] : List Int), ((0 : Int), (x1.2.2.1, (x1.2.1, (x1.2.2.1, (x1.2.2.1, (x1.2.1, (x1.2.2.2.1, x1.2.2.2.2))))))))))))
theorem E249 (f304 : els [(.int .i64)] → Option (els [(.int .i64), (.int .i64)])) (x : els [(.int .i64), (.int .i64)]) : runT Tryz.prog (tgamOf [(304, .p [S304 f304])]) 249 H249 [.s (.leaf (.int .i64)), .s (.leaf (.int .i64))] [(.int .i64), (.int .i64)] [true, false] [(.pair (.int .i64) (.pair (.int .i64) (.sl (.int .i64)))), (.int .i64)] x = G249 f304 x := by kernel_rfl
noncomputable def g249 : els [(.int .i64), (.int .i64)] → Option (els [(.pair (.int .i64) (.pair (.int .i64) (.sl (.int .i64)))), (.int .i64)]) := G249 g304
theorem C249 : EntOk Tryz.prog 249 (.p [S249 g249]) := TabOk.addP mixed7 (T := [(304, .p [S304 g304])]) ⟨C304, trivial⟩ H249 (S249 g249) [] (by simp) (by kernel_rfl) (funext fun x => (E249 g304 x).symm)
/-! 248 storagebarter / matrix.Identity -/
def S248 (F : els [.int .i64] → Option (els [.int .i64, .int .i64, .sl (.int .i64), .int .i64])) : GSpec := ⟨[], [.imm (.s (.leaf (.int .i64)))], [.int .i64], .own [.st [.dat (.int .i64), .dat (.int .i64), .arr (.int .i64)], .dat false (.int .i64)], [], [.int .i64, .int .i64, .sl (.int .i64), .int .i64], F⟩
def H248 : Hints := { loops := [(5, [])], regs := [(1, [.dat 11 .bool])] }
noncomputable def G248_1 (x2 : ((List Int) × (Int × (Int × (Int × (Int × (Int × (Int × Int)))))))) : Option ((((List Int) × (Int × (Int × (Int × (Int × (Int × (Int × Int)))))))) ⊕ ((Int × (Int × ((List Int) × Int))))) :=
  (bif (decide ((x2.2.1 < x2.2.2.1))) then (guardT ((((0 : Int) ≤ (IntKind.wrap IntKind.i64 ((IntKind.wrap IntKind.i64 (x2.2.1 * x2.2.2.2.1)) + x2.2.1))) ∧ ((IntKind.wrap IntKind.i64 ((IntKind.wrap IntKind.i64 (x2.2.1 * x2.2.2.2.1)) + x2.2.1)) < (((List.length x2.1) : Nat) : Int)))) (x2.1[(Int.toNat (IntKind.wrap IntKind.i64 ((IntKind.wrap IntKind.i64 (x2.2.1 * x2.2.2.2.1)) + x2.2.1)))]?.bind (fun (x3 : Int) => (some (Sum.inl ((List.set x2.1 (Int.toNat (IntKind.wrap IntKind.i64 ((IntKind.wrap IntKind.i64 (x2.2.1 * x2.2.2.2.1)) + x2.2.1))) (1 : Int)), ((IntKind.wrap IntKind.i64 (x2.2.1 + (1 : Int))), (x2.2.2.1, (x2.2.2.2.1, (x2.2.2.2.2.1, (x2.2.2.2.2.2.1, (x2.2.2.2.2.2.2.1, x2.2.2.2.2.2.2.2)))))))))))) else (some (Sum.inr (x2.2.2.2.2.1, (x2.2.2.2.2.2.1, (x2.1, (0 : Int)))))))
noncomputable def G248 (x : Int) : Option ((Int × (Int × ((List Int) × Int)))) :=
  ((bif (decide ((x < (1 : Int)))) then (some (Bool.true, (x, ((0 : Int), (0 : Int))))) else (some ((decide ((x > (16 : Int)))), (x, ((0 : Int), (0 : Int)))))).bind (fun (x1 : (Bool × (Int × (Int × Int)))) => (bif x1.1 then (some ((0 : Int), ((0 : Int), (([] : List Int), (1 : Int))))) else (guardT ((((0 : Int) ≤ (IntKind.wrap IntKind.i64 (x1.2.1 * x1.2.1))) ∧ (((IntKind.wrap IntKind.i64 (x1.2.1 * x1.2.1)) * ((((8 : Nat) : Nat) : Int) + (1 : Int))) ≤ ((2 : Int) ^ (40 : Nat))))) (loopO G248_1 ((List.replicate (Int.toNat (IntKind.wrap IntKind.i64 (x1.2.1 * x1.2.1))) (0 : Int)), ((0 : Int), (x1.2.1, (x1.2.1, (x1.2.1, (x1.2.1, (x1.2.2.1, x1.2.2.2))))))))))))
theorem E248 (x : els [.int .i64]) : runGT Tryz.prog (tgamOf []) 248 H248 [.imm (.s (.leaf (.int .i64)))] [.int .i64] (.own [.st [.dat (.int .i64), .dat (.int .i64), .arr (.int .i64)], .dat false (.int .i64)]) [] [.int .i64, .int .i64, .sl (.int .i64), .int .i64] x = G248 x := by kernel_rfl
noncomputable def g248 : els [.int .i64] → Option (els [.int .i64, .int .i64, .sl (.int .i64), .int .i64]) := G248
theorem C248 : EntOk Tryz.prog 248 (.g [S248 g248]) := TabOk.addG mixed7 (T := []) trivial H248 (S248 g248) [] (by simp) (by kernel_rfl) (funext fun x => (E248 x).symm)
/-! 250 storagebarter / erasure.combine -/
def S250 (F : els [.sl (.int .u8), .int .i64, .str] → Option (els [.sl (.int .u8)])) : GSpec := ⟨[], [.arr (.int .u8), .imm (.s (.leaf (.int .i64))), .imm (.s (.leaf .str))], [.sl (.int .u8), .int .i64, .str], .imm [], [true], [.sl (.int .u8)], F⟩
def H250 : Hints := { loops := [(1, [])], regs := [] }
noncomputable def G250_1 (f305 : (Int → (Option (Int × Int)))) (f306 : ((Int × Int) → (Option Int))) (x1 : ((List Int) × (Int × (Int × ((List UInt8) × Int))))) : Option ((((List Int) × (Int × (Int × ((List UInt8) × Int))))) ⊕ ((List Int))) :=
  (bif (decide ((x1.2.1 < x1.2.2.1))) then (guardT (((0 : Int) ≤ x1.2.1)) (x1.2.2.2.1[(Int.toNat x1.2.1)]?.bind (fun (x2 : UInt8) => ((f305 (IntKind.wrap IntKind.i64 (((UInt8.toNat x2) : Nat) : Int))).bind (fun (x3 : (Int × Int)) => (guardT ((((0 : Int) ≤ x1.2.1) ∧ (x1.2.1 < (((List.length x1.1) : Nat) : Int)))) (x1.1[(Int.toNat x1.2.1)]?.bind (fun (x4 : Int) => ((f306 (x1.2.2.2.2, x3.1)).bind (fun (x5 : Int) => ((f306 (x1.2.2.2.2, x3.2)).bind (fun (x6 : Int) => (guardT (((0 : Int) ≤ (4 : Int))) (guardT ((((0 : Int) ≤ x1.2.1) ∧ (x1.2.1 < (((List.length x1.1) : Nat) : Int)))) (x1.1[(Int.toNat x1.2.1)]?.bind (fun (x7 : Int) => (some (Sum.inl ((List.set x1.1 (Int.toNat x1.2.1) (IntKind.wrap IntKind.u8 (((BitVec.toNat ((BitVec.ofInt (IntKind.bits IntKind.u8) x4) ^^^ (BitVec.ofInt (IntKind.bits IntKind.u8) (IntKind.wrap IntKind.u8 (IntKind.wrap IntKind.i64 (((BitVec.toNat ((BitVec.ofInt (IntKind.bits IntKind.i64) x5) ||| (BitVec.ofInt (IntKind.bits IntKind.i64) (IntKind.wrap IntKind.i64 (x6 * ((2 : Int) ^ (Min.min (Int.toNat (4 : Int)) (IntKind.bits IntKind.i64)))))))) : Nat) : Int)))))) : Nat) : Int))), ((IntKind.wrap IntKind.i64 (x1.2.1 + (1 : Int))), (x1.2.2.1, (x1.2.2.2.1, x1.2.2.2.2)))))))))))))))))))))) else (some (Sum.inr x1.1)))
noncomputable def G250 (f305 : (Int → (Option (Int × Int)))) (f306 : ((Int × Int) → (Option Int))) (x : ((List Int) × (Int × (List UInt8)))) : Option ((List Int)) :=
  (loopO (G250_1 f305 f306) (x.1, ((0 : Int), ((((List.length x.2.2) : Nat) : Int), (x.2.2, x.2.1)))))
theorem E250 (f305 : els [(.int .i64)] → Option (els [(.int .i64), (.int .i64)])) (f306 : els [(.int .i64), (.int .i64)] → Option (els [(.int .i64)])) (x : els [.sl (.int .u8), .int .i64, .str]) : runGT Tryz.prog (tgamOf [(305, .p [S305 f305]), (306, .p [S306 f306])]) 250 H250 [.arr (.int .u8), .imm (.s (.leaf (.int .i64))), .imm (.s (.leaf .str))] [.sl (.int .u8), .int .i64, .str] (.imm []) [true] [.sl (.int .u8)] x = G250 f305 f306 x := by kernel_rfl
noncomputable def g250 : els [.sl (.int .u8), .int .i64, .str] → Option (els [.sl (.int .u8)]) := G250 g305 g306
theorem C250 : EntOk Tryz.prog 250 (.g [S250 g250]) := TabOk.addG mixed7 (T := [(305, .p [S305 g305]), (306, .p [S306 g306])]) ⟨C305, C306, trivial⟩ H250 (S250 g250) [] (by simp) (by kernel_rfl) (funext fun x => (E250 g305 g306 x).symm)
/-! 193 storagebarter / erasure.rowsOf -/
def S193 (F : els [(.pair (.int .i64) (.int .i64))] → Option (els [(.pair (.int .i64) (.pair (.int .i64) (.sl (.int .i64))))])) : PSpec := ⟨[], [.s (.st (.pair (.int .i64) (.int .i64)))], [(.pair (.int .i64) (.int .i64))], [true], [(.pair (.int .i64) (.pair (.int .i64) (.sl (.int .i64))))], F⟩
def H193 : Hints := { loops := [], regs := [] }
noncomputable def G193 (f248 : (Int → (Option (Int × (Int × ((List Int) × Int)))))) (f249 : ((Int × Int) → (Option ((Int × (Int × (List Int))) × Int)))) (x : (Int × Int)) : Option ((Int × (Int × (List Int)))) :=
  ((f248 x.1).bind (fun (x1 : (Int × (Int × ((List Int) × Int)))) => ((f249 ((IntKind.wrap IntKind.i64 (x.2 - x.1)), x.1)).bind (fun (x2 : ((Int × (Int × (List Int))) × Int)) => (bif (x2.2 == (0 : Int)) then (guardT (((((List.length x1.2.2.1) + (List.length x2.1.2.2)) * ((8 : Nat) + (1 : Nat))) ≤ ((2 : Nat) ^ (40 : Nat)))) (some (x.2, (x1.2.1, (x1.2.2.1 ++ x2.1.2.2))))) else (some (x1.1, (x1.2.1, x1.2.2.1))))))))
theorem E193 (f248 : els [.int .i64] → Option (els [.int .i64, .int .i64, .sl (.int .i64), .int .i64])) (f249 : els [(.int .i64), (.int .i64)] → Option (els [(.pair (.int .i64) (.pair (.int .i64) (.sl (.int .i64)))), (.int .i64)])) (x : els [(.pair (.int .i64) (.int .i64))]) : runT Tryz.prog (tgamOf [(248, .g [S248 f248]), (249, .p [S249 f249])]) 193 H193 [.s (.st (.pair (.int .i64) (.int .i64)))] [(.pair (.int .i64) (.int .i64))] [true] [(.pair (.int .i64) (.pair (.int .i64) (.sl (.int .i64))))] x = G193 f248 f249 x := by kernel_rfl
noncomputable def g193 : els [(.pair (.int .i64) (.int .i64))] → Option (els [(.pair (.int .i64) (.pair (.int .i64) (.sl (.int .i64))))]) := G193 g248 g249
theorem C193 : EntOk Tryz.prog 193 (.p [S193 g193]) := TabOk.addP mixed7 (T := [(248, .g [S248 g248]), (249, .p [S249 g249])]) ⟨C248, C249, trivial⟩ H193 (S193 g193) [] (by simp) (by kernel_rfl) (funext fun x => (E193 g248 g249 x).symm)
/-! 194 storagebarter / erasure.shard -/
def S194 (F : els [(.sl (.int .i64)), (.sl .str), (.int .i64)] → Option (els [.str])) : PSpec := ⟨[], [.s (.leaf (.sl (.int .i64))), .s (.leaf (.sl .str)), .s (.leaf (.int .i64))], [(.sl (.int .i64)), (.sl .str), (.int .i64)], [false], [.str], F⟩
def H194 : Hints := { loops := [(3, [])], regs := [] }
noncomputable def G194_1 (f250 : (((List Int) × (Int × (List UInt8))) → (Option (List Int)))) (x1 : ((List Int) × (Int × (Int × ((List Int) × (List (List UInt8))))))) : Option ((((List Int) × (Int × (Int × ((List Int) × (List (List UInt8))))))) ⊕ ((List UInt8))) :=
  (bif (decide ((x1.2.1 < x1.2.2.1))) then (guardT (((0 : Int) ≤ x1.2.1)) (x1.2.2.2.1[(Int.toNat x1.2.1)]?.bind (fun (x2 : Int) => (guardT (((0 : Int) ≤ x1.2.1)) (x1.2.2.2.2[(Int.toNat x1.2.1)]?.bind (fun (x3 : (List UInt8)) => ((f250 (x1.1, (x2, x3))).bind (fun (x4 : (List Int)) => (guardT (((List.length x4) = (List.length x1.1))) (some (Sum.inl (x4, ((IntKind.wrap IntKind.i64 (x1.2.1 + (1 : Int))), (x1.2.2.1, (x1.2.2.2.1, x1.2.2.2.2))))))))))))))) else (some (Sum.inr (List.map (fun (x5 : Int) => (UInt8.ofNat (Int.toNat x5))) x1.1))))
noncomputable def G194 (f250 : (((List Int) × (Int × (List UInt8))) → (Option (List Int)))) (x : ((List Int) × ((List (List UInt8)) × Int))) : Option ((List UInt8)) :=
  (guardT ((((0 : Int) ≤ x.2.2) ∧ ((x.2.2 * ((((1 : Nat) : Nat) : Int) + (1 : Int))) ≤ ((2 : Int) ^ (40 : Nat))))) (loopO (G194_1 f250) ((List.replicate (Int.toNat x.2.2) (0 : Int)), ((0 : Int), ((((List.length x.1) : Nat) : Int), (x.1, x.2.1))))))
theorem E194 (f250 : els [.sl (.int .u8), .int .i64, .str] → Option (els [.sl (.int .u8)])) (x : els [(.sl (.int .i64)), (.sl .str), (.int .i64)]) : runT Tryz.prog (tgamOf [(250, .g [S250 f250])]) 194 H194 [.s (.leaf (.sl (.int .i64))), .s (.leaf (.sl .str)), .s (.leaf (.int .i64))] [(.sl (.int .i64)), (.sl .str), (.int .i64)] [false] [.str] x = G194 f250 x := by kernel_rfl
noncomputable def g194 : els [(.sl (.int .i64)), (.sl .str), (.int .i64)] → Option (els [.str]) := G194 g250
theorem C194 : EntOk Tryz.prog 194 (.p [S194 g194]) := TabOk.addP mixed7 (T := [(250, .g [S250 g250])]) ⟨C250, trivial⟩ H194 (S194 g194) [] (by simp) (by kernel_rfl) (funext fun x => (E194 g250 x).symm)
/-! 106 storagebarter / erasure.Encode -/
def S106 (F : els [(.pair (.int .i64) (.int .i64)), .str] → Option (els [(.sl (.pair (.int .i64) .str)), (.int .i64)])) : PSpec := ⟨[], [.s (.st (.pair (.int .i64) (.int .i64))), .s (.leaf .str)], [(.pair (.int .i64) (.int .i64)), .str], [false, false], [(.sl (.pair (.int .i64) .str)), (.int .i64)], F⟩
def H106 : Hints := { loops := [(7, [.grow 8 0 .str]), (14, [.grow 11 1 (.pair (.int .i64) .str)])], regs := [] }
noncomputable def G106_2 (f194 : (((List Int) × ((List (List UInt8)) × Int)) → (Option (List UInt8)))) (x5 : ((List (Int × (List UInt8))) × ((List (List UInt8)) × (Int × (Int × (Int × (Int × (Int × ((List Int) × (Int × Int)))))))))) : Option ((((List (Int × (List UInt8))) × ((List (List UInt8)) × (Int × (Int × (Int × (Int × (Int × ((List Int) × (Int × Int)))))))))) ⊕ (((List (Int × (List UInt8))) × Int))) :=
  (bif (decide ((x5.2.2.1 < x5.2.2.2.1))) then (guardT ((((0 : Int) ≤ (IntKind.wrap IntKind.i64 (x5.2.2.1 * x5.2.2.2.2.2.2.2.2.1))) ∧ (((IntKind.wrap IntKind.i64 (x5.2.2.1 * x5.2.2.2.2.2.2.2.2.1)) ≤ (IntKind.wrap IntKind.i64 ((IntKind.wrap IntKind.i64 (x5.2.2.1 + (1 : Int))) * x5.2.2.2.2.2.2.2.2.1))) ∧ ((IntKind.wrap IntKind.i64 ((IntKind.wrap IntKind.i64 (x5.2.2.1 + (1 : Int))) * x5.2.2.2.2.2.2.2.2.1)) ≤ (((List.length x5.2.2.2.2.2.2.2.1) : Nat) : Int))))) ((f194 ((List.take ((Int.toNat (IntKind.wrap IntKind.i64 ((IntKind.wrap IntKind.i64 (x5.2.2.1 + (1 : Int))) * x5.2.2.2.2.2.2.2.2.1))) - (Int.toNat (IntKind.wrap IntKind.i64 (x5.2.2.1 * x5.2.2.2.2.2.2.2.2.1)))) (List.drop (Int.toNat (IntKind.wrap IntKind.i64 (x5.2.2.1 * x5.2.2.2.2.2.2.2.2.1))) x5.2.2.2.2.2.2.2.1)), (x5.2.1, x5.2.2.2.2.1))).bind (fun (x6 : (List UInt8)) => (guardT (((((List.length x5.1) + (List.length [(x5.2.2.1, x6)])) * ((24 : Nat) + (1 : Nat))) ≤ ((2 : Nat) ^ (40 : Nat)))) (some (Sum.inl ((x5.1 ++ [(x5.2.2.1, x6)]), (x5.2.1, ((IntKind.wrap IntKind.i64 (x5.2.2.1 + (1 : Int))), (x5.2.2.2.1, (x5.2.2.2.2.1, (x5.2.2.2.2.2.1, (x5.2.2.2.2.2.2.1, (x5.2.2.2.2.2.2.2.1, (x5.2.2.2.2.2.2.2.2.1, x5.2.2.2.2.2.2.2.2.2))))))))))))))) else (some (Sum.inr (x5.1, (0 : Int)))))
noncomputable def G106_1 (f193 : ((Int × Int) → (Option (Int × (Int × (List Int)))))) (f194 : (((List Int) × ((List (List UInt8)) × Int)) → (Option (List UInt8)))) (x3 : ((List (List UInt8)) × (Int × (Int × (Int × ((List UInt8) × (Int × Int))))))) : Option ((((List (List UInt8)) × (Int × (Int × (Int × ((List UInt8) × (Int × Int))))))) ⊕ (((List (Int × (List UInt8))) × Int))) :=
  (bif (decide ((x3.2.1 < x3.2.2.1))) then (guardT ((((0 : Int) ≤ (IntKind.wrap IntKind.i64 (x3.2.1 * x3.2.2.2.1))) ∧ (((IntKind.wrap IntKind.i64 (x3.2.1 * x3.2.2.2.1)) ≤ (IntKind.wrap IntKind.i64 ((IntKind.wrap IntKind.i64 (x3.2.1 + (1 : Int))) * x3.2.2.2.1))) ∧ ((IntKind.wrap IntKind.i64 ((IntKind.wrap IntKind.i64 (x3.2.1 + (1 : Int))) * x3.2.2.2.1)) ≤ (((List.length x3.2.2.2.2.1) : Nat) : Int))))) (guardT (((((List.length x3.1) + (List.length [(List.take ((Int.toNat (IntKind.wrap IntKind.i64 ((IntKind.wrap IntKind.i64 (x3.2.1 + (1 : Int))) * x3.2.2.2.1))) - (Int.toNat (IntKind.wrap IntKind.i64 (x3.2.1 * x3.2.2.2.1)))) (List.drop (Int.toNat (IntKind.wrap IntKind.i64 (x3.2.1 * x3.2.2.2.1))) x3.2.2.2.2.1))])) * ((16 : Nat) + (1 : Nat))) ≤ ((2 : Nat) ^ (40 : Nat)))) (some (Sum.inl ((x3.1 ++ [(List.take ((Int.toNat (IntKind.wrap IntKind.i64 ((IntKind.wrap IntKind.i64 (x3.2.1 + (1 : Int))) * x3.2.2.2.1))) - (Int.toNat (IntKind.wrap IntKind.i64 (x3.2.1 * x3.2.2.2.1)))) (List.drop (Int.toNat (IntKind.wrap IntKind.i64 (x3.2.1 * x3.2.2.2.1))) x3.2.2.2.2.1))]), ((IntKind.wrap IntKind.i64 (x3.2.1 + (1 : Int))), (x3.2.2.1, (x3.2.2.2.1, (x3.2.2.2.2.1, (x3.2.2.2.2.2.1, x3.2.2.2.2.2.2)))))))))) else (((f193 (x3.2.2.2.2.2.1, x3.2.2.2.2.2.2)).bind (fun (x4 : (Int × (Int × (List Int)))) => (loopO (G106_2 f194) (([] : List (Int × (List UInt8))), (x3.1, ((0 : Int), (x3.2.2.2.2.2.2, (x3.2.2.2.1, (x4.1, (x4.2.1, (x4.2.2, (x3.2.2.2.2.2.1, x3.2.2.2.2.2.2)))))))))))).bind (fun (x7 : ((List (Int × (List UInt8))) × Int)) => (some (Sum.inr x7)))))
noncomputable def G106 (f112 : (((Int × Int) × Int) → (Option (Int × Int)))) (f166 : (((List UInt8) × Int) → (Option (List UInt8)))) (f193 : ((Int × Int) → (Option (Int × (Int × (List Int)))))) (f194 : (((List Int) × ((List (List UInt8)) × Int)) → (Option (List UInt8)))) (x : ((Int × Int) × (List UInt8))) : Option (((List (Int × (List UInt8))) × Int)) :=
  ((f112 ((x.1.1, x.1.2), (((List.length x.2) : Nat) : Int))).bind (fun (x1 : (Int × Int)) => (bif (x1.2 != (0 : Int)) then (some (([] : List (Int × (List UInt8))), x1.2)) else ((f166 ((Array.toList (ByteArray.data (ByteArray.mk (List.toArray [(0 : UInt8)])))), (IntKind.wrap IntKind.i64 ((IntKind.wrap IntKind.i64 (x1.1 * x.1.1)) - (((List.length x.2) : Nat) : Int))))).bind (fun (x2 : (List UInt8)) => (guardT ((((List.length x.2) + (List.length x2)) ≤ ((2 : Nat) ^ (62 : Nat)))) (loopO (G106_1 f193 f194) (([] : List (List UInt8)), ((0 : Int), (x.1.1, (x1.1, ((x.2 ++ x2), (x.1.1, x.1.2)))))))))))))
theorem E106 (f112 : els [(.pair (.int .i64) (.int .i64)), (.int .i64)] → Option (els [(.int .i64), (.int .i64)])) (f166 : els [.str, (.int .i64)] → Option (els [.str])) (f193 : els [(.pair (.int .i64) (.int .i64))] → Option (els [(.pair (.int .i64) (.pair (.int .i64) (.sl (.int .i64))))])) (f194 : els [(.sl (.int .i64)), (.sl .str), (.int .i64)] → Option (els [.str])) (x : els [(.pair (.int .i64) (.int .i64)), .str]) : runT Tryz.prog (tgamOf [(112, .p [S112 f112]), (166, .p [S166 f166]), (193, .p [S193 f193]), (194, .p [S194 f194])]) 106 H106 [.s (.st (.pair (.int .i64) (.int .i64))), .s (.leaf .str)] [(.pair (.int .i64) (.int .i64)), .str] [false, false] [(.sl (.pair (.int .i64) .str)), (.int .i64)] x = G106 f112 f166 f193 f194 x := by kernel_rfl
noncomputable def g106 : els [(.pair (.int .i64) (.int .i64)), .str] → Option (els [(.sl (.pair (.int .i64) .str)), (.int .i64)]) := G106 g112 g166 g193 g194
theorem C106 : EntOk Tryz.prog 106 (.p [S106 g106]) := TabOk.addP mixed7 (T := [(112, .p [S112 g112]), (166, .p [S166 g166]), (193, .p [S193 g193]), (194, .p [S194 g194])]) ⟨C112, C166, C193, C194, trivial⟩ H106 (S106 g106) [] (by simp) (by kernel_rfl) (funext fun x => (E106 g112 g166 g193 g194 x).symm)
/-! 45 storagebarter / stripe.Make -/
def S45 (F : els [(.pair (.int .i64) (.int .i64)), .str, (.int .i64)] → Option (els [(.pair (.pair (.int .i64) (.int .i64)) (.pair (.int .i64) (.sl (.int .i64)))), (.sl (.pair (.int .i64) .str)), (.int .i64)])) : PSpec := ⟨[], [.s (.st (.pair (.int .i64) (.int .i64))), .s (.leaf .str), .s (.leaf (.int .i64))], [(.pair (.int .i64) (.int .i64)), .str, (.int .i64)], [true, false, false], [(.pair (.pair (.int .i64) (.int .i64)) (.pair (.int .i64) (.sl (.int .i64)))), (.sl (.pair (.int .i64) .str)), (.int .i64)], F⟩
def H45 : Hints := { loops := [(15, [.growC 14 3 0 (.int .i64)])], regs := [] }
noncomputable def G45_1 (f107 : ((List UInt8) → (Option Int))) (x5 : ((List Int) × (Int × (Int × ((List (Int × (List UInt8))) × ((List (Int × (List UInt8))) × (Int × (Int × (Int × (Int × (Int × Int))))))))))) : Option ((((List Int) × (Int × (Int × ((List (Int × (List UInt8))) × ((List (Int × (List UInt8))) × (Int × (Int × (Int × (Int × (Int × Int))))))))))) ⊕ ((((Int × Int) × (Int × (List Int))) × ((List (Int × (List UInt8))) × Int)))) :=
  (bif (decide ((x5.2.1 < x5.2.2.1))) then (guardT (((0 : Int) ≤ x5.2.1)) (x5.2.2.2.1[(Int.toNat x5.2.1)]?.bind (fun (x6 : (Int × (List UInt8))) => ((f107 x6.2).bind (fun (x7 : Int) => (guardT (((((List.length x5.1) + (List.length [x7])) * ((8 : Nat) + (1 : Nat))) ≤ ((2 : Nat) ^ (40 : Nat)))) (some (Sum.inl ((x5.1 ++ [x7]), ((IntKind.wrap IntKind.i64 (x5.2.1 + (1 : Int))), (x5.2.2.1, (x5.2.2.2.1, (x5.2.2.2.2.1, (x5.2.2.2.2.2.1, (x5.2.2.2.2.2.2.1, (x5.2.2.2.2.2.2.2.1, (x5.2.2.2.2.2.2.2.2.1, (x5.2.2.2.2.2.2.2.2.2.1, x5.2.2.2.2.2.2.2.2.2.2)))))))))))))))))) else (some (Sum.inr (((x5.2.2.2.2.2.1, x5.2.2.2.2.2.2.1), (x5.2.2.2.2.2.2.2.1, x5.1)), (x5.2.2.2.2.1, (0 : Int))))))
noncomputable def G45 (f44 : ((Int × Int) → (Option Int))) (f104 : (((List UInt8) × Int) → (Option ((Int × (List UInt8)) × Int)))) (f105 : ((Int × (List UInt8)) → (Option ((List UInt8) × Int)))) (f106 : (((Int × Int) × (List UInt8)) → (Option ((List (Int × (List UInt8))) × Int)))) (f107 : ((List UInt8) → (Option Int))) (x : ((Int × Int) × ((List UInt8) × Int))) : Option ((((Int × Int) × (Int × (List Int))) × ((List (Int × (List UInt8))) × Int))) :=
  ((f44 (x.1.1, x.1.2)).bind (fun (x1 : Int) => (bif (x1 != (0 : Int)) then (some ((((0 : Int), (0 : Int)), ((0 : Int), ([] : List Int))), (([] : List (Int × (List UInt8))), x1))) else ((f104 (x.2.1, x.2.2)).bind (fun (x2 : ((Int × (List UInt8)) × Int)) => (bif (x2.2 != (0 : Int)) then (some ((((0 : Int), (0 : Int)), ((0 : Int), ([] : List Int))), (([] : List (Int × (List UInt8))), x2.2))) else ((f105 (x2.1.1, x2.1.2)).bind (fun (x3 : ((List UInt8) × Int)) => (bif (x3.2 != (0 : Int)) then (some ((((0 : Int), (0 : Int)), ((0 : Int), ([] : List Int))), (([] : List (Int × (List UInt8))), x3.2))) else ((f106 ((x.1.1, x.1.2), x3.1)).bind (fun (x4 : ((List (Int × (List UInt8))) × Int)) => (bif (x4.2 != (0 : Int)) then (some ((((0 : Int), (0 : Int)), ((0 : Int), ([] : List Int))), (([] : List (Int × (List UInt8))), x4.2))) else (loopO (G45_1 f107) (([] : List Int), ((0 : Int), ((((List.length x4.1) : Nat) : Int), (x4.1, (x4.1, (x.1.1, (x.1.2, ((((List.length x3.1) : Nat) : Int), ((0 : Int), ((0 : Int), (0 : Int))))))))))))))))))))))))
theorem E45 (f44 : els [(.pair (.int .i64) (.int .i64))] → Option (els [(.int .i64)])) (f104 : els [.str, (.int .i64)] → Option (els [(.pair (.int .i64) .str), (.int .i64)])) (f105 : els [(.pair (.int .i64) .str)] → Option (els [.str, (.int .i64)])) (f106 : els [(.pair (.int .i64) (.int .i64)), .str] → Option (els [(.sl (.pair (.int .i64) .str)), (.int .i64)])) (f107 : els [.str] → Option (els [(.int .i64)])) (x : els [(.pair (.int .i64) (.int .i64)), .str, (.int .i64)]) : runT Tryz.prog (tgamOf [(44, .p [S44 f44]), (104, .p [S104 f104]), (105, .p [S105 f105]), (106, .p [S106 f106]), (107, .p [S107 f107])]) 45 H45 [.s (.st (.pair (.int .i64) (.int .i64))), .s (.leaf .str), .s (.leaf (.int .i64))] [(.pair (.int .i64) (.int .i64)), .str, (.int .i64)] [true, false, false] [(.pair (.pair (.int .i64) (.int .i64)) (.pair (.int .i64) (.sl (.int .i64)))), (.sl (.pair (.int .i64) .str)), (.int .i64)] x = G45 f44 f104 f105 f106 f107 x := by kernel_rfl
noncomputable def g45 : els [(.pair (.int .i64) (.int .i64)), .str, (.int .i64)] → Option (els [(.pair (.pair (.int .i64) (.int .i64)) (.pair (.int .i64) (.sl (.int .i64)))), (.sl (.pair (.int .i64) .str)), (.int .i64)]) := G45 g44 g104 g105 g106 g107
theorem C45 : EntOk Tryz.prog 45 (.p [S45 g45]) := TabOk.addP mixed7 (T := [(44, .p [S44 g44]), (104, .p [S104 g104]), (105, .p [S105 g105]), (106, .p [S106 g106]), (107, .p [S107 g107])]) ⟨C44, C104, C105, C106, C107, trivial⟩ H45 (S45 g45) [] (by simp) (by kernel_rfl) (funext fun x => (E45 g44 g104 g105 g106 g107 x).symm)
/-! 17 storagebarter / backup.Make -/
def S17 (F : els [(.int .i64), (.int .i64), .str, (.pair (.int .i64) (.int .i64)), (.int .i64), (.int .i64)] → Option (els [(.pair (.int .i64) (.pair (.int .i64) (.pair (.int .i64) (.pair (.sl (.pair (.pair (.int .i64) (.int .i64)) (.pair (.int .i64) (.sl (.int .i64))))) (.sl (.pair (.int .i64) (.pair (.int .i64) (.int .i64)))))))), (.sl (.sl (.pair (.int .i64) .str))), (.int .i64)])) : PSpec := ⟨[], [.s (.leaf (.int .i64)), .s (.leaf (.int .i64)), .s (.leaf .str), .s (.st (.pair (.int .i64) (.int .i64))), .s (.leaf (.int .i64)), .s (.leaf (.int .i64))], [(.int .i64), (.int .i64), .str, (.pair (.int .i64) (.int .i64)), (.int .i64), (.int .i64)], [true, false, false], [(.pair (.int .i64) (.pair (.int .i64) (.pair (.int .i64) (.pair (.sl (.pair (.pair (.int .i64) (.int .i64)) (.pair (.int .i64) (.sl (.int .i64))))) (.sl (.pair (.int .i64) (.pair (.int .i64) (.int .i64)))))))), (.sl (.sl (.pair (.int .i64) .str))), (.int .i64)], F⟩
def H17 : Hints := { loops := [(12, [.grow 19 0 (.sl (.pair (.int .i64) .str)), .growC 18 3 1 (.pair (.pair (.int .i64) (.int .i64)) (.pair (.int .i64) (.sl (.int .i64))))])], regs := [(1, [.dat 35 .bool])] }
noncomputable def G17_1 (f45 : (((Int × Int) × ((List UInt8) × Int)) → (Option (((Int × Int) × (Int × (List Int))) × ((List (Int × (List UInt8))) × Int))))) (x5 : ((List (List (Int × (List UInt8)))) × ((List ((Int × Int) × (Int × (List Int)))) × (Int × (Int × ((List (List UInt8)) × (Int × (Int × (Int × (Int × (Int × (Int × (Int × (Int × Int)))))))))))))) : Option ((((List (List (Int × (List UInt8)))) × ((List ((Int × Int) × (Int × (List Int)))) × (Int × (Int × ((List (List UInt8)) × (Int × (Int × (Int × (Int × (Int × (Int × (Int × (Int × Int)))))))))))))) ⊕ (((Int × (Int × (Int × ((List ((Int × Int) × (Int × (List Int)))) × (List (Int × (Int × Int))))))) × ((List (List (Int × (List UInt8)))) × Int)))) :=
  (bif (decide ((x5.2.2.1 < x5.2.2.2.1))) then (guardT (((0 : Int) ≤ x5.2.2.1)) (x5.2.2.2.2.1[(Int.toNat x5.2.2.1)]?.bind (fun (x6 : (List UInt8)) => ((f45 ((x5.2.2.2.2.2.2.2.2.2.2.2.2.1, x5.2.2.2.2.2.2.2.2.2.2.2.2.2), (x6, x5.2.2.2.2.2.1))).bind (fun (x7 : (((Int × Int) × (Int × (List Int))) × ((List (Int × (List UInt8))) × Int))) => (bif (x7.2.2 != (0 : Int)) then (some (Sum.inr (((0 : Int), ((0 : Int), ((0 : Int), (([] : List ((Int × Int) × (Int × (List Int)))), ([] : List (Int × (Int × Int))))))), (([] : List (List (Int × (List UInt8)))), x7.2.2)))) else (guardT (((((List.length x5.2.1) + (List.length [((x7.1.1.1, x7.1.1.2), (x7.1.2.1, x7.1.2.2))])) * ((48 : Nat) + (1 : Nat))) ≤ ((2 : Nat) ^ (40 : Nat)))) (guardT (((((List.length x5.1) + (List.length [x7.2.1])) * ((24 : Nat) + (1 : Nat))) ≤ ((2 : Nat) ^ (40 : Nat)))) (some (Sum.inl ((x5.1 ++ [x7.2.1]), ((x5.2.1 ++ [((x7.1.1.1, x7.1.1.2), (x7.1.2.1, x7.1.2.2))]), ((IntKind.wrap IntKind.i64 (x5.2.2.1 + (1 : Int))), (x5.2.2.2.1, (x5.2.2.2.2.1, (x5.2.2.2.2.2.1, (x5.2.2.2.2.2.2.1, (x5.2.2.2.2.2.2.2.1, (x5.2.2.2.2.2.2.2.2.1, (x5.2.2.2.2.2.2.2.2.2.1, (x5.2.2.2.2.2.2.2.2.2.2.1, (x5.2.2.2.2.2.2.2.2.2.2.2.1, (x5.2.2.2.2.2.2.2.2.2.2.2.2.1, x5.2.2.2.2.2.2.2.2.2.2.2.2.2))))))))))))))))))))))) else (some (Sum.inr ((x5.2.2.2.2.2.2.1, (x5.2.2.2.2.2.2.2.1, (x5.2.2.2.2.2.2.2.2.1, (x5.2.1, ([] : List (Int × (Int × Int))))))), (x5.1, (0 : Int))))))
noncomputable def G17 (f43 : (Int → (Option Bool))) (f44 : ((Int × Int) → (Option Int))) (f14 : (((List UInt8) × Int) → (Option ((List (List UInt8)) × Int)))) (f45 : (((Int × Int) × ((List UInt8) × Int)) → (Option (((Int × Int) × (Int × (List Int))) × ((List (Int × (List UInt8))) × Int))))) (x : (Int × (Int × ((List UInt8) × ((Int × Int) × (Int × Int)))))) : Option (((Int × (Int × (Int × ((List ((Int × Int) × (Int × (List Int)))) × (List (Int × (Int × Int))))))) × ((List (List (Int × (List UInt8)))) × Int))) :=
  (((f43 x.1).bind (fun (x1 : Bool) => (bif (!x1) then (some (Bool.true, (x.2.2.2.2.2, (x.2.2.2.2.1, (x.2.2.1, (x.2.1, (x.1, ((0 : Int), ((0 : Int), ((0 : Int), (x.2.2.2.1.1, x.2.2.2.1.2))))))))))) else (bif (decide ((x.2.1 < (1 : Int)))) then (some (Bool.true, (x.2.2.2.2.2, (x.2.2.2.2.1, (x.2.2.1, (x.2.1, (x.1, ((0 : Int), ((0 : Int), ((0 : Int), (x.2.2.2.1.1, x.2.2.2.1.2))))))))))) else (some ((decide ((x.2.1 > (1048576 : Int)))), (x.2.2.2.2.2, (x.2.2.2.2.1, (x.2.2.1, (x.2.1, (x.1, ((0 : Int), ((0 : Int), ((0 : Int), (x.2.2.2.1.1, x.2.2.2.1.2))))))))))))))).bind (fun (x2 : (Bool × (Int × (Int × ((List UInt8) × (Int × (Int × (Int × (Int × (Int × (Int × Int))))))))))) => (bif x2.1 then (some (((0 : Int), ((0 : Int), ((0 : Int), (([] : List ((Int × Int) × (Int × (List Int)))), ([] : List (Int × (Int × Int))))))), (([] : List (List (Int × (List UInt8)))), (1 : Int)))) else ((f44 (x2.2.2.2.2.2.2.2.2.2.1, x2.2.2.2.2.2.2.2.2.2.2)).bind (fun (x3 : Int) => (bif (x3 != (0 : Int)) then (some (((0 : Int), ((0 : Int), ((0 : Int), (([] : List ((Int × Int) × (Int × (List Int)))), ([] : List (Int × (Int × Int))))))), (([] : List (List (Int × (List UInt8)))), x3))) else ((f14 (x2.2.2.2.1, x2.2.1)).bind (fun (x4 : ((List (List UInt8)) × Int)) => (bif (x4.2 != (0 : Int)) then (some (((0 : Int), ((0 : Int), ((0 : Int), (([] : List ((Int × Int) × (Int × (List Int)))), ([] : List (Int × (Int × Int))))))), (([] : List (List (Int × (List UInt8)))), x4.2))) else (loopO (G17_1 f45) (([] : List (List (Int × (List UInt8)))), (([] : List ((Int × Int) × (Int × (List Int)))), ((0 : Int), ((((List.length x4.1) : Nat) : Int), (x4.1, (x2.2.2.1, (x2.2.2.2.2.2.1, (x2.2.2.2.2.1, ((((List.length x2.2.2.2.1) : Nat) : Int), (x2.2.2.2.2.2.2.1, (x2.2.2.2.2.2.2.2.1, (x2.2.2.2.2.2.2.2.2.1, (x2.2.2.2.2.2.2.2.2.2.1, x2.2.2.2.2.2.2.2.2.2.2)))))))))))))))))))))))
theorem E17 (f43 : els [(.int .i64)] → Option (els [.bool])) (f44 : els [(.pair (.int .i64) (.int .i64))] → Option (els [(.int .i64)])) (f14 : els [.str, (.int .i64)] → Option (els [(.sl .str), (.int .i64)])) (f45 : els [(.pair (.int .i64) (.int .i64)), .str, (.int .i64)] → Option (els [(.pair (.pair (.int .i64) (.int .i64)) (.pair (.int .i64) (.sl (.int .i64)))), (.sl (.pair (.int .i64) .str)), (.int .i64)])) (x : els [(.int .i64), (.int .i64), .str, (.pair (.int .i64) (.int .i64)), (.int .i64), (.int .i64)]) : runT Tryz.prog (tgamOf [(43, .p [S43 f43]), (44, .p [S44 f44]), (14, .p [S14 f14]), (45, .p [S45 f45])]) 17 H17 [.s (.leaf (.int .i64)), .s (.leaf (.int .i64)), .s (.leaf .str), .s (.st (.pair (.int .i64) (.int .i64))), .s (.leaf (.int .i64)), .s (.leaf (.int .i64))] [(.int .i64), (.int .i64), .str, (.pair (.int .i64) (.int .i64)), (.int .i64), (.int .i64)] [true, false, false] [(.pair (.int .i64) (.pair (.int .i64) (.pair (.int .i64) (.pair (.sl (.pair (.pair (.int .i64) (.int .i64)) (.pair (.int .i64) (.sl (.int .i64))))) (.sl (.pair (.int .i64) (.pair (.int .i64) (.int .i64)))))))), (.sl (.sl (.pair (.int .i64) .str))), (.int .i64)] x = G17 f43 f44 f14 f45 x := by kernel_rfl
noncomputable def g17 : els [(.int .i64), (.int .i64), .str, (.pair (.int .i64) (.int .i64)), (.int .i64), (.int .i64)] → Option (els [(.pair (.int .i64) (.pair (.int .i64) (.pair (.int .i64) (.pair (.sl (.pair (.pair (.int .i64) (.int .i64)) (.pair (.int .i64) (.sl (.int .i64))))) (.sl (.pair (.int .i64) (.pair (.int .i64) (.int .i64)))))))), (.sl (.sl (.pair (.int .i64) .str))), (.int .i64)]) := G17 g43 g44 g14 g45
theorem C17 : EntOk Tryz.prog 17 (.p [S17 g17]) := TabOk.addP mixed7 (T := [(43, .p [S43 g43]), (44, .p [S44 g44]), (14, .p [S14 g14]), (45, .p [S45 g45])]) ⟨C43, C44, C14, C45, trivial⟩ H17 (S17 g17) [] (by simp) (by kernel_rfl) (funext fun x => (E17 g43 g44 g14 g45 x).symm)
end Go.Abs
