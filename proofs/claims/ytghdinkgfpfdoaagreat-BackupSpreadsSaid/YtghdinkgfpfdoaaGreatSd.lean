import Derived.Test.YtghdinkgfpfdoaaGreatSb
import Derived.Test.YtghdinkgfpfdoaaGreatSa
import Derived.Test.YtghdinkgfpfdoaaGreatSc
/- The given contracts of this seat: slices.Clone, strings.Repeat, slices.Sorted[int], wire.PutInt. -/
namespace Go.Abs
open Go Go.Proofs Go.RowKit Go.Shelf

theorem r65 : FreshRows Tryz.prog 65 3 := clone_rows Tryz.lays65 rfl rfl (by kernel_rfl : cloneOk Tryz.prog 63 3 = true)
theorem r118 : FreshRows Tryz.prog 118 4 := clone_rows Tryz.lays118 rfl rfl (by kernel_rfl : cloneOk Tryz.prog 54 4 = true)
theorem r119 : FreshRows Tryz.prog 119 1 := clone_rows Tryz.laysSlE041_f119 rfl rfl (by kernel_rfl : cloneOk Tryz.prog 3 1 = true)

def fPutInt : List PD → Option PD
  | [.val (.string s), .val (.int .i64 n)] => if s.size ≤ 2 ^ 40 then some (.val (.string ⟨(s.data.toList ++ Tryz.putBytes n).toArray⟩)) else none
  | _ => none
theorem p192 : PSound Tryz.prog 192 fPutInt := by
  intro I w ds xs r hr hI hx
  unfold fPutInt at hr
  split at hr
  case h_2 => cases hr
  rename_i s n
  split at hr
  case isFalse => cases hr
  rename_i hb
  cases hr
  simp only [VRels, VRel] at hx
  obtain ⟨_, _, rfl, rfl, _, _, rfl, rfl, rfl⟩ := hx
  refine (callsIn_wide.1 (Tryz.putInt_in Fence.wide 5 trivial trivial trivial trivial rfl (by omega) s (by omega) n w)).mono ?_
  rintro e w' ⟨rfl, hb'⟩
  exact ⟨_, rfl, hb', by simp only [VRel]⟩

def repB : Nat → List UInt8 → List UInt8
  | 0, _ => []
  | n + 1, l => l ++ repB n l
theorem repB_eq : ∀ (n : Nat) (l : List UInt8), repB n l = Lib.repeatL l n
  | 0, l => rfl
  | n + 1, l => by simp only [repB, repB_eq n l]; first | rfl | simp [Lib.repeatL]
def fRepeat : List PD → Option PD
  | [.val (.string s), .val (.int .i64 n)] => if 0 ≤ n ∧ n ≤ 2 ^ 40 ∧ s.size * n.toNat ≤ 2 ^ 40 then some (.val (.string ⟨(repB n.toNat s.data.toList).toArray⟩)) else none
  | _ => none
theorem p166 : PSound Tryz.prog 166 fRepeat := by
  intro I w ds xs r hr hI hx
  unfold fRepeat at hr
  split at hr
  case h_2 => cases hr
  rename_i s n
  split at hr
  case isFalse => cases hr
  rename_i hb
  cases hr
  simp only [VRels, VRel] at hx
  obtain ⟨_, _, rfl, rfl, _, _, rfl, rfl, rfl⟩ := hx
  have hn : (n.toNat : Int) = n := by omega
  have := Tryz.strings_Repeat s n.toNat w (by omega) (by omega)
  rw [hn] at this
  refine this.mono ?_
  rintro e w' ⟨rfl, hb'⟩
  exact ⟨_, rfl, hb', by simp only [VRel, repB_eq]⟩

def insI (x : Int) : List Int → List Int
  | [] => [x]
  | y :: l => if x ≤ y then x :: y :: l else y :: insI x l
def sortI : List Int → List Int
  | [] => []
  | x :: l => insI x (sortI l)
theorem insI_perm (x : Int) : ∀ l : List Int, (insI x l).Perm (x :: l)
  | [] => List.Perm.refl _
  | y :: l => by
    unfold insI; split
    · exact List.Perm.refl _
    · exact ((insI_perm x l).cons y).trans (List.Perm.swap x y l)
theorem sortI_perm : ∀ l : List Int, (sortI l).Perm l
  | [] => List.Perm.refl _
  | x :: l => (insI_perm x _).trans ((sortI_perm l).cons x)
theorem insI_sorted (x : Int) : ∀ l : List Int, l.Pairwise (· ≤ ·) → (insI x l).Pairwise (· ≤ ·)
  | [], _ => by simp [insI]
  | y :: l, h => by
    rw [List.pairwise_cons] at h
    unfold insI; split
    · rw [List.pairwise_cons, List.pairwise_cons]
      refine ⟨fun z hz => ?_, h⟩
      rcases List.mem_cons.1 hz with rfl | hz
      · assumption
      · have := h.1 z hz; omega
    · rw [List.pairwise_cons]
      refine ⟨fun z hz => ?_, insI_sorted x l h.2⟩
      rcases List.mem_cons.1 ((insI_perm x l).mem_iff.1 hz) with rfl | hz
      · omega
      · exact h.1 z hz
theorem sortI_sorted : ∀ l : List Int, (sortI l).Pairwise (· ≤ ·)
  | [] => List.Pairwise.nil
  | x :: l => insI_sorted x _ (sortI_sorted l)
theorem sortI_eq (l : List Int) : l.mergeSort (fun x y => decide (x ≤ y)) = sortI l := by
  refine List.Perm.eq_of_pairwise (le := fun a b : Int => a ≤ b) (fun a b _ _ h k => by omega) ?_ (sortI_sorted l) ((List.mergeSort_perm l _).trans (sortI_perm l).symm)
  have := List.pairwise_mergeSort (le := fun x y : Int => decide (x ≤ y)) (fun a b c h k => by simp at *; omega) (fun a b => by simp; omega) l
  exact this.imp fun h => by simpa using h

def ofRows : List (List PD) → Option (List Int)
  | [] => some []
  | [.val (.int .i64 n)] :: l => (ofRows l).map (n :: ·)
  | _ => none
theorem ofRows_eq : ∀ {rows : List (List PD)} {xs : List Int}, ofRows rows = some xs → rows = xs.map fun n => [.val (.int .i64 n)]
  | [], xs, h => by cases h; rfl
  | r :: l, xs, h => by
    unfold ofRows at h
    split at h
    · cases ‹_ = []›
    · rename_i n l' e
      cases e
      simp only [Option.map_eq_some_iff] at h
      obtain ⟨ys, h1, rfl⟩ := h
      rw [ofRows_eq h1]; rfl
    · cases h
def fSorted : List PD → Option PD
  | [.clo (.func 204) [] [.ptr [.sl rows] 0]] => match ofRows rows with
    | some xs => if 0 < xs.length ∧ xs.length ≤ 2 ^ 32 then some (.sl ((sortI xs).map fun n => [.val (.int .i64 n)])) else none
    | none => none
  | _ => none
theorem VRels.ints {I : Nat → Prop} {w : World} : ∀ {xs : List Int} {vs : List Value}, VRels I w ((xs.map fun n => [PD.val (.int .i64 n)]).flatten) vs → vs = xs.map (Value.int .i64)
  | [], vs, h => by simpa [VRels] using h
  | x :: xs, vs, h => by
    simp only [List.map_cons, List.flatten_cons, List.cons_append, List.nil_append, VRels, VRel] at h
    obtain ⟨_, vs', rfl, rfl, h⟩ := h
    rw [VRels.ints h]; rfl
theorem VRels.of_ints {I : Nat → Prop} {w : World} : ∀ (xs : List Int), VRels I w ((xs.map fun n => [PD.val (.int .i64 n)]).flatten) (xs.map (Value.int .i64))
  | [] => by simp [VRels]
  | x :: xs => by
    simp only [List.map_cons, List.flatten_cons, List.cons_append, List.nil_append, VRels, VRel]
    exact ⟨_, _, rfl, rfl, VRels.of_ints xs⟩

theorem p121 : PSound Tryz.prog 121 fSorted := by
  intro I w ds xs r hr hI hx
  unfold fSorted at hr
  split at hr
  case h_2 => cases hr
  rename_i rows
  split at hr
  case h_2 => cases hr
  rename_i zs hz
  split at hr
  case isFalse => cases hr
  rename_i hb
  cases hr
  have hrows := ofRows_eq hz
  subst hrows
  simp only [VRels, VRel, VAt] at hx
  obtain ⟨_, _, rfl, ⟨vs, us, rfl, h1, c, _, h2, ⟨b, o, rfl, hIb, ⟨x, hcell, _, a, cap, rfl, hcap, hmax, hrows⟩, _⟩, rfl⟩, rfl⟩ := hx
  have e1 : vs = #[] := by cases vs; simpa using h1
  have e2 : us = #[.pointer (some ⟨b, o + 0, none⟩)] := by cases us; simpa using h2
  subst e1 e2
  obtain ⟨b', off, sz, rfl, hb'I, hv⟩ : ∃ b' off sz, a = some ⟨b', off, none⟩ ∧ I b' ∧ VRows I w b' off sz (zs.map fun n => [PD.val (.int .i64 n)]) := by
    rcases hrows with h | h
    · have := congrArg List.length h; rw [List.length_map] at this; simp at this; have := hb.1; subst_vars; simp at this
    · exact h
  obtain ⟨ys, hc, hys, hyl, hcells⟩ := hv.values
  have hye := VRels.ints hys
  subst hye
  have hints : Tryz.Ints w.heap.size w (.slice (some ⟨b', off, none⟩) (zs.map fun n => [PD.val (.int .i64 n)]).length cap) zs := by
    refine .inr ⟨b', off, cap, by simp, hI _ hb'I, fun j hj => ?_⟩
    have := hcells j (.int .i64 zs[j]) (by simp [hj])
    simpa [hj, World.cellAt] using this
  refine (Tryz.sorted_calls b (o + 0) _ zs (Nat.le_trans hb.2 (by simp [maxLen])) (by have := hb.2; omega) w (hI _ hIb) hcell hints).mono ?_
  rintro e w' ⟨v, rfl, hown, _, hbl⟩
  refine ⟨v, rfl, hbl, ?_⟩
  rw [sortI_eq] at hown
  refine VRel.of_owns (size := 1) (by simp) (by intro v hv; obtain ⟨n, _, rfl⟩ := List.mem_map.1 hv; rfl) (VRels.of_ints (w := w) _) (fun b hb => hbl.block _ (hI b hb)) (e := 3) (base := w.heap.size) ?_
  have hl : ((sortI zs).map fun n => [PD.val (.int .i64 n)]).length = zs.length := by simp [(sortI_perm zs).length_eq]
  rw [hl]
  exact hown
end Go.Abs
