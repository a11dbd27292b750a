import Derived.WalkKit
import Derived.Laws.StructEq
/- Pure data, abstract values and what it means that they stand for values of a world. -/
namespace Go.Abs
open Go.RowKit

/-- Pure data: what a value reads as where nobody writes what it reaches any more. -/
inductive PD where
  | val (v : Value)
  | agg (cs : List PD)
  | tup (vs : List PD)
  | sl (rows : List (List PD))
  | ptr (cells : List PD) (off : Nat)
  | clo (fn : Fn) (first captured : List PD)
  | iface (t : TypeId) (d : PD)
  deriving Inhabited

/-- The name of a block: one of the function's own, by the slot that it was made at, or one of its caller's. -/
inductive Ref where
  | loc (d i : Nat)
  | out (r : Ref)
  deriving DecidableEq, Inhabited

/-- What a slot holds. -/
inductive AV where
  | und
  | pd (d : PD)
  | nil
  | agg (cs : List AV)
  | tup (vs : List AV)
  | ptr (r : Ref) (off : Nat)
  | eptr (r : Ref) (row off : Nat)
  | sl (r : Ref) (sz off len : Nat)
  | clo (fn : Fn) (first captured : List AV)
  | iface (t : TypeId) (v : AV)
  deriving Inhabited

/-- A block: a variable, the array of a slice of one's own, one that nobody writes any more, one that is gone. -/
inductive Block where
  | vars (cs : List AV)
  | arr (sz : Nat) (rows : List (List PD))
  | fro (sz : Nat) (rows : List (List PD))
  | dead
  deriving Inhabited

abbrev Blk := Ref → Option Block

/-- Where a block lies: nowhere any more; a nil slice; from cell o of block b on, ct elements of sz cells. -/
inductive Pl where
  | gone
  | nilp
  | at (b o ct sz : Nat)
  deriving Inhabited

/-- A value that one cell of memory can hold. -/
def cellish : Value → Bool
  | .agg _ | .tuple _ => false
  | _ => true
def Cellish (vs : List Value) : Prop := ∀ v ∈ vs, cellish v = true

def World.cellAt (w : World) (b off : Nat) : Option Value := w.cell? ⟨b, off, none⟩

mutual
def VRel (I : Nat → Prop) (w : World) : PD → Value → Prop
  | .val v, x => x = v
  | .agg cs, x => ∃ vs, x = .agg vs ∧ Cellish vs.toList ∧ VRels I w cs vs.toList
  | .tup cs, x => ∃ vs, x = .tuple vs ∧ VRels I w cs vs.toList
  | .sl rows, x => ∃ a cap, x = .slice a rows.length cap ∧ rows.length ≤ cap ∧ cap ≤ maxLen ∧
      (rows = [] ∨ ∃ b off sz, a = some ⟨b, off, none⟩ ∧ I b ∧ VRows I w b off sz rows)
  | .ptr cs off, x => ∃ b o, x = .pointer (some ⟨b, o + off, none⟩) ∧ I b ∧ VAt I w b o cs
  | .clo fn first captured, x => ∃ vs us, x = .func fn vs us ∧ VRels I w first vs.toList ∧ VRels I w captured us.toList
  | .iface t d, x => ∃ u, x = .iface t u ∧ VRel I w d u
def VRels (I : Nat → Prop) (w : World) : List PD → List Value → Prop
  | [], xs => xs = []
  | d :: ds, xs => ∃ x xs', xs = x :: xs' ∧ VRel I w d x ∧ VRels I w ds xs'
def VAt (I : Nat → Prop) (w : World) (b off : Nat) : List PD → Prop
  | [] => True
  | d :: ds => (∃ x, World.cellAt w b off = some x ∧ cellish x = true ∧ VRel I w d x) ∧ VAt I w b (off + 1) ds
def VRows (I : Nat → Prop) (w : World) (b off sz : Nat) : List (List PD) → Prop
  | [] => True
  | r :: rs => r.length = sz ∧ VAt I w b off r ∧ VRows I w b (off + sz) sz rs
end

mutual
def ARel (I : Nat → Prop) (w : World) (ρ : Ref → Pl) : AV → Value → Prop
  | .und, _ => True
  | .pd d, x => VRel I w d x
  | .nil, x => x = .slice none 0 0
  | .agg cs, x => ∃ vs, x = .agg vs ∧ Cellish vs.toList ∧ ARels I w ρ cs vs.toList
  | .tup cs, x => ∃ vs, x = .tuple vs ∧ ARels I w ρ cs vs.toList
  | .ptr r off, x => ∃ ad, x = .pointer (some ad) ∧ ∀ b o ct sz, ρ r = .at b o ct sz → ad = ⟨b, o + off, none⟩
  | .eptr r row off, x => ∃ ad, x = .pointer (some ad) ∧ ∀ b o ct sz, ρ r = .at b o ct sz → ad = ⟨b, o + row * sz + off, none⟩
  | .sl r sz off len, x => ∃ a cap, x = .slice a len cap ∧ len ≤ cap ∧ (a = none → len = 0) ∧ (ρ r = .nilp → a = none ∧ len = 0 ∧ cap = 0 ∧ off = 0) ∧
      ∀ b o ct sz', ρ r = .at b o ct sz' → sz' = sz ∧ off + cap = ct ∧ len ≤ cap ∧ a ≠ none ∧ (cap ≠ 0 → a = some ⟨b, o + off * sz, none⟩)
  | .clo fn first captured, x => ∃ vs us, x = .func fn vs us ∧ ARels I w ρ first vs.toList ∧ ARels I w ρ captured us.toList
  | .iface t v, x => ∃ u, x = .iface t u ∧ ARel I w ρ v u
def ARels (I : Nat → Prop) (w : World) (ρ : Ref → Pl) : List AV → List Value → Prop
  | [], xs => xs = []
  | d :: ds, xs => ∃ x xs', xs = x :: xs' ∧ ARel I w ρ d x ∧ ARels I w ρ ds xs'
end

theorem cellAt_of_block {w w' : World} {b off : Nat} (h : w'.heap[b]? = w.heap[b]?) : World.cellAt w' b off = World.cellAt w b off := by
  simp only [World.cellAt, World.cell?, h]

mutual
theorem VRel.mono {I I' : Nat → Prop} {w w' : World} (hI : ∀ b, I b → I' b) (hw : ∀ b, I b → w'.heap[b]? = w.heap[b]?) :
    ∀ (d : PD) (x : Value), VRel I w d x → VRel I' w' d x
  | .val v, x, h => by simpa only [VRel] using h
  | .agg cs, x, h => by simp only [VRel] at h ⊢; obtain ⟨vs, e, hc, h⟩ := h; exact ⟨vs, e, hc, VRels.mono hI hw cs _ h⟩
  | .tup cs, x, h => by simp only [VRel] at h ⊢; obtain ⟨vs, e, h⟩ := h; exact ⟨vs, e, VRels.mono hI hw cs _ h⟩
  | .sl rows, x, h => by
    simp only [VRel] at h ⊢
    obtain ⟨a, cap, e, h1, h2, h⟩ := h
    refine ⟨a, cap, e, h1, h2, ?_⟩
    rcases h with h | ⟨b, off, sz, ha, hb, hr⟩
    · exact .inl h
    · exact .inr ⟨b, off, sz, ha, hI _ hb, VRows.mono hI hw b off sz (hw b hb) rows hr⟩
  | .ptr cs off, x, h => by
    simp only [VRel] at h ⊢
    obtain ⟨b, o, e, hb, hc⟩ := h
    exact ⟨b, o, e, hI _ hb, VAt.mono hI hw b o (hw b hb) cs hc⟩
  | .clo fn first captured, x, h => by
    simp only [VRel] at h ⊢
    obtain ⟨vs, us, e, h1, h2⟩ := h
    exact ⟨vs, us, e, VRels.mono hI hw _ _ h1, VRels.mono hI hw _ _ h2⟩
  | .iface t d, x, h => by simp only [VRel] at h ⊢; obtain ⟨u, e, h⟩ := h; exact ⟨u, e, VRel.mono hI hw d u h⟩
theorem VRels.mono {I I' : Nat → Prop} {w w' : World} (hI : ∀ b, I b → I' b) (hw : ∀ b, I b → w'.heap[b]? = w.heap[b]?) :
    ∀ (ds : List PD) (xs : List Value), VRels I w ds xs → VRels I' w' ds xs
  | [], xs, h => by simpa only [VRels] using h
  | d :: ds, xs, h => by
    simp only [VRels] at h ⊢
    obtain ⟨x, xs', e, h1, h2⟩ := h
    exact ⟨x, xs', e, VRel.mono hI hw d x h1, VRels.mono hI hw ds xs' h2⟩
theorem VAt.mono {I I' : Nat → Prop} {w w' : World} (hI : ∀ b, I b → I' b) (hw : ∀ b, I b → w'.heap[b]? = w.heap[b]?) (b off : Nat)
    (hb : w'.heap[b]? = w.heap[b]?) : ∀ (ds : List PD), VAt I w b off ds → VAt I' w' b off ds
  | [], _ => by simp only [VAt]
  | d :: ds, h => by
    simp only [VAt] at h ⊢
    obtain ⟨⟨x, hx, hc, h1⟩, h2⟩ := h
    exact ⟨⟨x, by rw [cellAt_of_block hb]; exact hx, hc, VRel.mono hI hw d x h1⟩, VAt.mono hI hw b (off + 1) hb ds h2⟩
theorem VRows.mono {I I' : Nat → Prop} {w w' : World} (hI : ∀ b, I b → I' b) (hw : ∀ b, I b → w'.heap[b]? = w.heap[b]?) (b off sz : Nat)
    (hb : w'.heap[b]? = w.heap[b]?) : ∀ (rs : List (List PD)), VRows I w b off sz rs → VRows I' w' b off sz rs
  | [], _ => by simp only [VRows]
  | r :: rs, h => by
    simp only [VRows] at h ⊢
    obtain ⟨h0, h1, h2⟩ := h
    exact ⟨h0, VAt.mono hI hw b off hb r h1, VRows.mono hI hw b (off + sz) sz hb rs h2⟩
end

/- Every name in an abstract value is one of D's. -/
mutual
def AV.ok (D : Ref → Prop) : AV → Prop
  | .und | .pd _ | .nil => True
  | .agg cs => AV.oks D cs
  | .tup cs => AV.oks D cs
  | .ptr r _ => D r
  | .eptr r _ _ => D r
  | .sl r _ _ _ => D r
  | .clo _ first captured => AV.oks D first ∧ AV.oks D captured
  | .iface _ v => AV.ok D v
def AV.oks (D : Ref → Prop) : List AV → Prop
  | [] => True
  | d :: ds => AV.ok D d ∧ AV.oks D ds
end
mutual
theorem AV.ok.mono {D D' : Ref → Prop} (h : ∀ r, D r → D' r) : ∀ v : AV, v.ok D → v.ok D'
  | .und, _ => by simp only [AV.ok]
  | .pd _, _ => by simp only [AV.ok]
  | .nil, _ => by simp only [AV.ok]
  | .agg cs, k => by simp only [AV.ok] at k ⊢; exact AV.oks.mono h cs k
  | .tup cs, k => by simp only [AV.ok] at k ⊢; exact AV.oks.mono h cs k
  | .ptr r _, k => by simp only [AV.ok] at k ⊢; exact h r k
  | .eptr r _ _, k => by simp only [AV.ok] at k ⊢; exact h r k
  | .sl r _ _ _, k => by simp only [AV.ok] at k ⊢; exact h r k
  | .clo _ first captured, k => by simp only [AV.ok] at k ⊢; exact ⟨AV.oks.mono h _ k.1, AV.oks.mono h _ k.2⟩
  | .iface _ v, k => by simp only [AV.ok] at k ⊢; exact AV.ok.mono h v k
theorem AV.oks.mono {D D' : Ref → Prop} (h : ∀ r, D r → D' r) : ∀ vs : List AV, AV.oks D vs → AV.oks D' vs
  | [], _ => by simp only [AV.oks]
  | v :: vs, k => by simp only [AV.oks] at k ⊢; exact ⟨AV.ok.mono h v k.1, AV.oks.mono h vs k.2⟩
end
theorem AV.oks_iff {D : Ref → Prop} : ∀ {vs : List AV}, AV.oks D vs ↔ ∀ v ∈ vs, v.ok D
  | [] => by simp [AV.oks]
  | v :: vs => by simp [AV.oks, AV.oks_iff (vs := vs)]
theorem AV.oks_pd {D : Ref → Prop} (ds : List PD) : AV.oks D (ds.map .pd) := by
  rw [AV.oks_iff]; intro v hv; obtain ⟨d, _, rfl⟩ := List.mem_map.1 hv; simp only [AV.ok]

/-- ρ' places what ρ places, of D's names, or has lost it. -/
def Later (D : Ref → Prop) (ρ ρ' : Ref → Pl) : Prop := ∀ r, D r → ρ' r = ρ r ∨ ρ' r = .gone

mutual
theorem ARel.mono {I I' : Nat → Prop} {w w' : World} {ρ ρ' : Ref → Pl} {D : Ref → Prop} (hI : ∀ b, I b → I' b)
    (hw : ∀ b, I b → w'.heap[b]? = w.heap[b]?) (hρ : Later D ρ ρ') : ∀ (d : AV) (x : Value), d.ok D → ARel I w ρ d x → ARel I' w' ρ' d x
  | .und, x, _, _ => by simp only [ARel]
  | .pd d, x, _, h => by simp only [ARel] at h ⊢; exact VRel.mono hI hw d x h
  | .nil, x, _, h => by simpa only [ARel] using h
  | .agg cs, x, k, h => by simp only [ARel, AV.ok] at h k ⊢; obtain ⟨vs, e, hc, h⟩ := h; exact ⟨vs, e, hc, ARels.mono hI hw hρ cs _ k h⟩
  | .tup cs, x, k, h => by simp only [ARel, AV.ok] at h k ⊢; obtain ⟨vs, e, h⟩ := h; exact ⟨vs, e, ARels.mono hI hw hρ cs _ k h⟩
  | .ptr r off, x, k, h => by
    simp only [ARel, AV.ok] at h k ⊢
    obtain ⟨ad, e, h⟩ := h
    exact ⟨ad, e, fun b o ct sz hr => by rcases hρ r k with g | g <;> rw [g] at hr; exact h b o ct sz hr; cases hr⟩
  | .eptr r row off, x, k, h => by
    simp only [ARel, AV.ok] at h k ⊢
    obtain ⟨ad, e, h⟩ := h
    exact ⟨ad, e, fun b o ct sz hr => by rcases hρ r k with g | g <;> rw [g] at hr; exact h b o ct sz hr; cases hr⟩
  | .sl r sz off len, x, k, h => by
    simp only [ARel, AV.ok] at h k ⊢
    obtain ⟨a, cap, e, hlc, h0, h1, h⟩ := h
    refine ⟨a, cap, e, hlc, h0, fun hr => ?_, fun b o ct sz' hr => ?_⟩
    · rcases hρ r k with g | g <;> rw [g] at hr
      · exact h1 hr
      · cases hr
    · rcases hρ r k with g | g <;> rw [g] at hr
      · exact h b o ct sz' hr
      · cases hr
  | .clo fn first captured, x, k, h => by
    simp only [ARel, AV.ok] at h k ⊢
    obtain ⟨vs, us, e, h1, h2⟩ := h
    exact ⟨vs, us, e, ARels.mono hI hw hρ _ _ k.1 h1, ARels.mono hI hw hρ _ _ k.2 h2⟩
  | .iface t v, x, k, h => by simp only [ARel, AV.ok] at h k ⊢; obtain ⟨u, e, h⟩ := h; exact ⟨u, e, ARel.mono hI hw hρ v u k h⟩
theorem ARels.mono {I I' : Nat → Prop} {w w' : World} {ρ ρ' : Ref → Pl} {D : Ref → Prop} (hI : ∀ b, I b → I' b)
    (hw : ∀ b, I b → w'.heap[b]? = w.heap[b]?) (hρ : Later D ρ ρ') : ∀ (ds : List AV) (xs : List Value), AV.oks D ds → ARels I w ρ ds xs → ARels I' w' ρ' ds xs
  | [], xs, _, h => by simpa only [ARels] using h
  | d :: ds, xs, k, h => by
    simp only [ARels, AV.oks] at h k ⊢
    obtain ⟨x, xs', e, h1, h2⟩ := h
    exact ⟨x, xs', e, ARel.mono hI hw hρ d x k.1 h1, ARels.mono hI hw hρ ds xs' k.2 h2⟩
end

/-- Flat data reach no memory. -/
def PD.leaf : PD → Bool
  | .val _ => true
  | .sl [] => true
  | _ => false
def PD.flat : PD → Bool
  | .val _ => true
  | .sl [] => true
  | .agg cs => cs.all PD.leaf
  | .tup vs => vs.all fun | .val _ => true | .sl [] => true | .agg cs => cs.all PD.leaf | _ => false
  | _ => false
theorem VRel.any_of_leaf {I I' : Nat → Prop} {w w' : World} {d : PD} {x : Value} (hv : d.leaf = true) (h : VRel I w d x) : VRel I' w' d x := by
  cases d with
  | val v => simpa only [VRel] using h
  | sl rows =>
    cases rows with
    | nil =>
      simp only [VRel] at h ⊢
      obtain ⟨a, cap, e, h1, h2, _⟩ := h
      exact ⟨a, cap, e, h1, h2, .inl trivial⟩
    | cons r rs => simp [PD.leaf] at hv
  | _ => simp [PD.leaf] at hv
theorem VRels.any_of {I I' : Nat → Prop} {w w' : World} : ∀ {cs : List PD} {xs : List Value},
    (∀ d ∈ cs, ∀ x, VRel I w d x → VRel I' w' d x) → VRels I w cs xs → VRels I' w' cs xs
  | [], xs, _, h => by simpa only [VRels] using h
  | d :: ds, xs, hd, h => by
    simp only [VRels] at h ⊢
    obtain ⟨x, xs', e, h1, h2⟩ := h
    exact ⟨x, xs', e, hd d (by simp) x h1, VRels.any_of (fun d' hd' => hd d' (by simp [hd'])) h2⟩
theorem VRel.any_of_aggVal {I I' : Nat → Prop} {w w' : World} {cs : List PD} {x : Value} (hv : cs.all PD.leaf = true) (h : VRel I w (.agg cs) x) : VRel I' w' (.agg cs) x := by
  simp only [VRel] at h ⊢
  obtain ⟨vs, e, hce, h⟩ := h
  exact ⟨vs, e, hce, VRels.any_of (fun d hd x hx => VRel.any_of_leaf (List.all_eq_true.1 hv d hd) hx) h⟩
theorem VRel.any_of_flat {I I' : Nat → Prop} {w w' : World} {d : PD} {x : Value} (hf : d.flat = true) (h : VRel I w d x) : VRel I' w' d x := by
  cases d with
  | val v => exact VRel.any_of_leaf rfl h
  | sl rows => exact VRel.any_of_leaf (by cases rows <;> simp_all [PD.flat, PD.leaf]) h
  | agg cs => exact VRel.any_of_aggVal hf h
  | tup cs =>
    simp only [VRel] at h ⊢
    obtain ⟨vs, e, h⟩ := h
    refine ⟨vs, e, VRels.any_of (fun d hd x hx => ?_) h⟩
    have := List.all_eq_true.1 hf d hd
    cases d with
    | val v => exact VRel.any_of_leaf rfl hx
    | sl rows => exact VRel.any_of_leaf (by cases rows <;> simp_all [PD.leaf]) hx
    | agg cs' => exact VRel.any_of_aggVal this hx
    | _ => simp at this
  | _ => simp [PD.flat] at hf

end Go.Abs

/- The relation between a state of the abstract run and a state of the model's, and how it goes on. -/
namespace Go.Abs
open Go.RowKit

def upd {α β : Type} [DecidableEq α] (f : α → β) (a : α) (b : β) : α → β := fun x => if x = a then b else f x
theorem upd_same {α β : Type} [DecidableEq α] (f : α → β) (a : α) (b : β) : upd f a b a = b := by simp [upd]
theorem upd_ne {α β : Type} [DecidableEq α] (f : α → β) {a x : α} (b : β) (h : x ≠ a) : upd f a b x = f x := by simp [upd, h]
theorem upd_comm {α β : Type} [DecidableEq α] (f : α → β) {a x : α} (b y : β) (h : a ≠ x) : upd (upd f a b) x y = upd (upd f x y) a b := by
  funext z; unfold upd; by_cases hz : z = x
  · subst hz; simp [Ne.symm h]
  · simp [hz]

def dom (blk : Blk) (r : Ref) : Prop := (blk r).isSome = true

def Block.ok (D : Ref → Prop) : Block → Prop
  | .vars cs => AV.oks D cs
  | _ => True
def Block.owned : Block → Bool
  | .vars _ | .arr _ _ => true
  | _ => false

def Unfrozen (n : Nat) (fz : Nat × Nat) : Prop := ∀ off, off < n → ¬ (fz.1 ≤ off ∧ off < fz.2)

def BRel (I : Nat → Prop) (w : World) (ρ : Ref → Pl) (r : Ref) : Block → Prop
  | .vars cs => ∃ b ct sz c el fz, ρ r = .at b 0 ct sz ∧ w.heap[b]? = some (.cells c el fz) ∧ ¬ I b ∧ Unfrozen c.size fz ∧ Cellish c.toList ∧ ARels I w ρ cs c.toList
  | .arr sz rows => (rows = [] ∧ ρ r = .nilp) ∨ ∃ b o ct c el fz, ρ r = .at b o ct sz ∧ w.heap[b]? = some (.cells c el fz) ∧ ¬ I b ∧ Unfrozen c.size fz ∧
      VRows I w b o sz rows ∧ rows.length ≤ ct ∧ ct ≤ maxLen ∧ o + ct * sz ≤ c.size
  | .fro sz rows => (rows = [] ∧ ρ r = .nilp) ∨ ∃ b o ct, ρ r = .at b o ct sz ∧ I b ∧ VRows I w b o sz rows ∧ rows.length ≤ ct ∧ ct ≤ maxLen
  | .dead => ρ r = .gone

/-- The blocks of the abstract state stand for blocks of the world. -/
structure HRel (I : Nat → Prop) (ρ : Ref → Pl) (w : World) (blk : Blk) : Prop where
  imm : ∀ b, I b → b < w.heap.size
  rel : ∀ r B, blk r = some B → BRel I w ρ r B
  inj : ∀ r r' B B' b o ct sz o' ct' sz', blk r = some B → B.owned = true → blk r' = some B' → B'.owned = true →
    ρ r = .at b o ct sz → ρ r' = .at b o' ct' sz' → r = r'
  ok : ∀ r B, blk r = some B → B.ok (dom blk)

/-- Of what was there nothing has turned, where 'fix' says so. -/
structure Frame (fix : Nat → Prop) (w0 w : World) : Prop where
  os : w.os = w0.os
  tape : w.tape = w0.tape
  output : w.output = w0.output
  size : w0.heap.size ≤ w.heap.size
  block : ∀ b, b < w0.heap.size → fix b → w.heap[b]? = w0.heap[b]?

theorem Frame.refl (fix : Nat → Prop) (w : World) : Frame fix w w := ⟨rfl, rfl, rfl, Nat.le_refl _, fun _ _ _ => rfl⟩
theorem Frame.below {w0 w : World} (h : Frame (fun _ => True) w0 w) : Below w0.heap.size w0 w :=
  ⟨h.os, h.tape, h.output, h.size, fun b hb => h.block b hb trivial⟩

structure Ctx where
  P : Program
  w0 : World
  I0 : Nat → Prop
  fix : Nat → Prop
  n : Nat
  /-- Names of the caller's, and where they lie. -/
  D0 : Ref → Prop := fun _ => False
  ρ0 : Ref → Pl := fun _ => .gone

structure St where
  env : Nat → AV
  blk : Blk

structure SCore (C : Ctx) (I : Nat → Prop) (ρ : Ref → Pl) (st : St) (a : Act) (w : World) : Prop where
  defers : a.defers = []
  size : a.tmps.size = C.n
  heap : HRel I ρ w st.blk
  old : ∀ b, C.I0 b → I b
  new : ∀ b, I b → C.I0 b ∨ C.w0.heap.size ≤ b ∨ ¬ C.fix b
  frame : Frame C.fix C.w0 w
  own : ∀ r B b o ct sz, st.blk r = some B → B.owned = true → ρ r = .at b o ct sz → C.fix b → C.w0.heap.size ≤ b
  env : ∀ t, ARel I w ρ (st.env t) (a.tmps.getD t undef)
  ok : ∀ t, (st.env t).ok (dom st.blk)
  tied : ∀ r, C.D0 r → dom st.blk r ∧ (ρ r = C.ρ0 r ∨ ρ r = .gone)

def SRel (C : Ctx) (st : St) (a : Act) (w : World) : Prop := ∃ I ρ, SCore C I ρ st a w

/-! ### Blocks and placements: what a change elsewhere leaves as it was -/

theorem lt_of_cells {w : World} {b : Nat} {o : Obj} (h : w.heap[b]? = some o) : b < w.heap.size := by
  rcases Nat.lt_or_ge b w.heap.size with h' | h'
  · exact h'
  · rw [Array.getElem?_eq_none h'] at h; cases h

/-- One block's relation goes on where its own block, and what is not written any more, are as they were. -/
theorem BRel.mono {I I' : Nat → Prop} {w w' : World} {ρ ρ' : Ref → Pl} {D : Ref → Prop} {r : Ref} {B : Block} (hI : ∀ b, I b → I' b)
    (hw : ∀ b, I b → w'.heap[b]? = w.heap[b]?) (hρ : Later D ρ ρ') (hr : ρ' r = ρ r) (hB : B.ok D)
    (hb : ∀ b o ct sz, ρ r = .at b o ct sz → B.owned = true → w'.heap[b]? = w.heap[b]? ∧ ¬ I' b) (h : BRel I w ρ r B) : BRel I' w' ρ' r B := by
  cases B with
  | vars cs =>
    obtain ⟨b, ct, sz, c, el, fz, h1, h2, h3, h4, hc, h5⟩ := h
    obtain ⟨e, ni⟩ := hb _ _ _ _ h1 rfl
    exact ⟨b, ct, sz, c, el, fz, hr.trans h1, e.trans h2, ni, h4, hc, ARels.mono hI hw hρ cs _ hB h5⟩
  | arr sz rows =>
    rcases h with ⟨h1, h2⟩ | ⟨b, o, ct, c, el, fz, h1, h2, h3, h4, h5, h6⟩
    · exact .inl ⟨h1, hr.trans h2⟩
    · obtain ⟨e, ni⟩ := hb _ _ _ _ h1 rfl
      exact .inr ⟨b, o, ct, c, el, fz, hr.trans h1, e.trans h2, ni, h4, VRows.mono hI hw _ _ _ e _ h5, h6⟩
  | fro sz rows =>
    rcases h with ⟨h1, h2⟩ | ⟨b, o, ct, h1, h2, h3, h4⟩
    · exact .inl ⟨h1, hr.trans h2⟩
    · exact .inr ⟨b, o, ct, hr.trans h1, hI _ h2, VRows.mono hI hw _ _ _ (hw _ h2) _ h3, h4⟩
  | dead => exact hr.trans h

theorem HRel.placed_lt {I : Nat → Prop} {ρ : Ref → Pl} {w : World} {blk : Blk} (h : HRel I ρ w blk) {r : Ref} {B : Block} {b o ct sz : Nat}
    (hr : blk r = some B) (hB : B.owned = true) (hp : ρ r = .at b o ct sz) : b < w.heap.size ∧ ¬ I b := by
  have := h.rel r B hr
  cases B with
  | vars cs =>
    obtain ⟨b', _, _, c, el, fz, h1, h2, h3, _⟩ := this
    rw [h1] at hp; cases hp; exact ⟨lt_of_cells h2, h3⟩
  | arr sz rows =>
    rcases this with ⟨_, h2⟩ | ⟨b', _, _, c, el, fz, h1, h2, h3, _⟩
    · rw [h2] at hp; cases hp
    · rw [h1] at hp; cases hp; exact ⟨lt_of_cells h2, h3⟩
  | fro sz rows => cases hB
  | dead => cases hB

theorem dom_upd {blk : Blk} {r : Ref} {B : Block} : ∀ x, dom blk x → dom (upd blk r (some B)) x := by
  intro x hx; unfold dom upd at *; split <;> simp_all
theorem dom_upd_self {blk : Blk} {r : Ref} {B : Block} : dom (upd blk r (some B)) r := by simp [dom, upd]

theorem push_old {h : Array Obj} {o : Obj} {b : Nat} (hb : b < h.size) : (h.push o)[b]? = h[b]? := by
  rw [Array.getElem?_push, if_neg (by omega)]
theorem push_new {h : Array Obj} {o : Obj} : (h.push o)[h.size]? = some o := by simp

/-- A new block of the world, under a new name. -/
theorem HRel.alloc {I : Nat → Prop} {ρ : Ref → Pl} {w : World} {blk : Blk} (h : HRel I ρ w blk) {r : Ref} (hr : blk r = none) (o : Obj) (B : Block) (pl : Pl)
    (hpl : ∀ b o ct sz, pl = .at b o ct sz → b = w.heap.size)
    (hB : BRel I { w with heap := w.heap.push o } (upd ρ r pl) r B) (hok : B.ok (dom (upd blk r (some B)))) :
    HRel I (upd ρ r pl) { w with heap := w.heap.push o } (upd blk r (some B)) where
  imm b hb := by have := h.imm b hb; simp; omega
  rel x X hx := by
    by_cases e : x = r
    · subst e; rw [upd_same] at hx; cases hx; exact hB
    · rw [upd_ne _ _ e] at hx
      refine (h.rel x X hx).mono (D := dom blk) (fun _ k => k) (fun b hb => push_old (h.imm b hb)) (fun y hy => .inl ?_) (upd_ne _ _ e) (h.ok x X hx) ?_
      · refine upd_ne _ _ ?_; rintro rfl; unfold dom at hy; rw [hr] at hy; cases hy
      · intro b o' ct sz hp hO; obtain ⟨h1, h2⟩ := h.placed_lt hx hO hp; exact ⟨push_old h1, h2⟩
  inj x y X Y b o1 ct1 sz1 o2 ct2 sz2 hx hX hy hY hp hq := by
    by_cases e : x = r
    · by_cases e' : y = r
      · exact e.trans e'.symm
      · subst e; rw [upd_ne _ _ e'] at hy hq; rw [upd_same] at hp
        have h1 := hpl _ _ _ _ hp; have h2 := (h.placed_lt hy hY hq).1; omega
    · by_cases e' : y = r
      · subst e'; rw [upd_ne _ _ e] at hx hp; rw [upd_same] at hq
        have h1 := hpl _ _ _ _ hq; have h2 := (h.placed_lt hx hX hp).1; omega
      · rw [upd_ne _ _ e] at hx hp; rw [upd_ne _ _ e'] at hy hq
        exact h.inj x y X Y b _ _ _ _ _ _ hx hX hy hY hp hq
  ok x X hx := by
    by_cases e : x = r
    · subst e; rw [upd_same] at hx; cases hx; exact hok
    · rw [upd_ne _ _ e] at hx
      have := h.ok x X hx
      cases X with
      | vars cs => exact AV.oks.mono dom_upd cs this
      | _ => trivial

theorem Frame.push {fix : Nat → Prop} {w0 w : World} (h : Frame fix w0 w) (o : Obj) : Frame fix w0 { w with heap := w.heap.push o } :=
  ⟨h.os, h.tape, h.output, by have := h.size; simp; omega, fun b hb hf => (push_old (Nat.lt_of_lt_of_le hb h.size)).trans (h.block b hb hf)⟩

/-- The slots: nothing but the heap's relation has to be said anew. -/
theorem SCore.step {C : Ctx} {I I' : Nat → Prop} {ρ ρ' : Ref → Pl} {st : St} {a : Act} {w w' : World} {blk' : Blk} (h : SCore C I ρ st a w)
    (hI : ∀ b, I b → I' b) (hw : ∀ b, I b → w'.heap[b]? = w.heap[b]?) (hρ : Later (dom st.blk) ρ ρ') (hdom : ∀ r, dom st.blk r → dom blk' r)
    (heap : HRel I' ρ' w' blk') (new : ∀ b, I' b → C.I0 b ∨ C.w0.heap.size ≤ b ∨ ¬ C.fix b) (frame : Frame C.fix C.w0 w')
    (own : ∀ r B b o ct sz, blk' r = some B → B.owned = true → ρ' r = .at b o ct sz → C.fix b → C.w0.heap.size ≤ b) : SCore C I' ρ' ⟨st.env, blk'⟩ a w' :=
  ⟨h.defers, h.size, heap, fun b hb => hI b (h.old b hb), new, frame, own, fun t => ARel.mono hI hw hρ _ _ (h.ok t) (h.env t), fun t => (h.ok t).mono hdom, fun r hr => by
    obtain ⟨k1, k2⟩ := h.tied r hr
    refine ⟨hdom r k1, ?_⟩
    rcases hρ r k1 with e | e
    · rw [e]; exact k2
    · exact .inr e⟩

theorem getD_put {a : Act} {d t : Nat} {v : Value} (hd : d < a.tmps.size) : (a.put (some d) v).tmps.getD t undef = if t = d then v else a.tmps.getD t undef := by
  by_cases e : t = d
  · subst e; simp [Act.put, hd]
  · have e' : ¬ d = t := fun h => e h.symm
    simp [Act.put, e, Array.getElem?_setIfInBounds_ne e']

theorem SCore.put {C : Ctx} {I : Nat → Prop} {ρ : Ref → Pl} {st : St} {a : Act} {w : World} (h : SCore C I ρ st a w) {d : Nat} (hd : d < C.n) {av : AV} {v : Value}
    (hv : ARel I w ρ av v) (hok : av.ok (dom st.blk)) : SCore C I ρ ⟨upd st.env d av, st.blk⟩ (a.put (some d) v) w := by
  refine ⟨h.defers, ?_, h.heap, h.old, h.new, h.frame, h.own, fun t => ?_, fun t => ?_, h.tied⟩
  · simp [Act.put, h.size]
  · rw [getD_put (by rw [h.size]; exact hd)]
    by_cases e : t = d
    · subst e; simp only [upd_same, if_true]; exact hv
    · simp only [upd_ne _ _ e, if_neg e]; exact h.env t
  · by_cases e : t = d
    · subst e; simp only [upd_same]; exact hok
    · simp only [upd_ne _ _ e]; exact h.ok t

/-- The slot that is written, or none. -/
def St.put (st : St) : Option Nat → AV → St
  | some d, v => ⟨upd st.env d v, st.blk⟩
  | none, _ => st

theorem SCore.putO {C : Ctx} {I : Nat → Prop} {ρ : Ref → Pl} {st : St} {a : Act} {w : World} (h : SCore C I ρ st a w) {d : Option Nat} (hd : ∀ x, d = some x → x < C.n)
    {av : AV} {v : Value} (hv : ARel I w ρ av v) (hok : av.ok (dom st.blk)) : SCore C I ρ (st.put d av) (a.put d v) w := by
  cases d with
  | none => exact h
  | some d => exact h.put (hd d rfl) hv hok

/-- A draw. -/
theorem SCore.drawn {C : Ctx} {I : Nat → Prop} {ρ : Ref → Pl} {st : St} {a : Act} {w : World} (h : SCore C I ρ st a w) (n : Nat) : SCore C I ρ st a { w with drawn := n } := by
  have hb : ∀ b : Nat, ({ w with drawn := n } : World).heap[b]? = w.heap[b]? := fun _ => rfl
  exact h.step (fun _ k => k) (fun b _ => hb b) (fun _ _ => .inl rfl) (fun _ k => k)
    ⟨h.heap.imm, fun r B hr => (h.heap.rel r B hr).mono (D := dom st.blk) (fun _ k => k) (fun b _ => hb b) (fun _ _ => .inl rfl) rfl (h.heap.ok r B hr)
      (fun b o ct sz hp hO => ⟨hb b, (h.heap.placed_lt hr hO hp).2⟩), h.heap.inj, h.heap.ok⟩ h.new
    ⟨h.frame.os, h.frame.tape, h.frame.output, h.frame.size, h.frame.block⟩ h.own

/-- A new block, under a new name. -/
theorem SCore.alloc {C : Ctx} {I : Nat → Prop} {ρ : Ref → Pl} {st : St} {a : Act} {w : World} (h : SCore C I ρ st a w) {r : Ref} (hr : st.blk r = none) (o : Obj) (B : Block) (pl : Pl)
    (hpl : ∀ b o ct sz, pl = .at b o ct sz → b = w.heap.size)
    (hB : BRel I { w with heap := w.heap.push o } (upd ρ r pl) r B) (hok : B.ok (dom (upd st.blk r (some B)))) :
    SCore C I (upd ρ r pl) ⟨st.env, upd st.blk r (some B)⟩ a { w with heap := w.heap.push o } := by
  refine h.step (fun _ k => k) (fun b hb => push_old (h.heap.imm b hb)) (fun y hy => .inl ?_) dom_upd (h.heap.alloc hr o B pl hpl hB hok) h.new (h.frame.push o) ?_
  · refine upd_ne _ _ ?_; rintro rfl; unfold dom at hy; rw [hr] at hy; cases hy
  · intro x X b o' ct sz hx hX hp hf
    by_cases e : x = r
    · subst e; rw [upd_same] at hp; have := hpl _ _ _ _ hp; have := h.frame.size; omega
    · rw [upd_ne _ _ e] at hx hp; exact h.own x X b _ _ _ hx hX hp hf

end Go.Abs

/- The abstract run of the operations of a region. -/
namespace Go.Abs
open Go.RowKit

structure TI where
  desc : TypeDesc
  size : Nat
  zero : List Value
  bytes : Nat

def ti (P : Program) (t : TypeId) : Option TI :=
  (P.info? t).bind fun i => (P.underlying t).bind fun d => i.zero.map fun z => ⟨d, i.size, z.cells.toList, i.bytes⟩

def descOf (P : Program) (t : TypeId) : Option TypeDesc := (ti P t).map TI.desc

def TypeDesc.agg : TypeDesc → Bool
  | .struct _ | .array _ _ => true
  | _ => false

/-- What a function is known to do: on pure data, or on blocks of its caller's. -/
inductive Spec where
  | p (F : List PD → Option PD)
  | g (G : Nat → List AV → Blk → Option (AV × Blk))

abbrev Gam := FuncId → Option Spec

def ofVal : Value → AV
  | .slice none 0 0 => .nil
  | v => .pd (.val v)

def ofValP : Value → PD
  | .slice none 0 0 => .sl []
  | v => .val v

/-- A nil slice is told by its name. -/
def nrm : AV → AV
  | .pd (.val (.slice none 0 0)) => .nil
  | v => v

def opnd (env : Nat → AV) : Operand → AV
  | .tmp t => nrm (env t)
  | .const v => ofVal v
  | .global _ => .und
  | .func f => .clo (.func f) [] []

/-- The cells of a value. -/
def avCells : AV → Option (List AV)
  | .und | .tup _ | .pd (.tup _) => none
  | .agg cs => some cs
  | .pd (.agg cs) => some (cs.map .pd)
  | .pd (.val v) => if cellish v then some [.pd (.val v)] else none
  | v => some [v]

def window {α : Type} (cs : List α) (off n : Nat) : Option (List α) := if off + n ≤ cs.length then some ((cs.drop off).take n) else none
def splice {α : Type} (cs : List α) (off : Nat) (new : List α) : Option (List α) :=
  if off + new.length ≤ cs.length then some (cs.take off ++ new ++ cs.drop (off + new.length)) else none

/-- What a value reads as; live: also what is still written. -/
def view (live : Bool) (blk : Blk) : Nat → AV → Option PD
  | 0, _ => none
  | n + 1, v => match v with
    | .und => none
    | .pd d => some d
    | .nil => some (.sl [])
    | .agg cs => (cs.mapM (view live blk n)).map .agg
    | .tup cs => (cs.mapM (view live blk n)).map .tup
    | .ptr r off => match live, blk r with
      | true, some (.vars cs) => (cs.mapM (view live blk n)).map (.ptr · off)
      | _, _ => none
    | .eptr r row off => match live, blk r with
      | _, some (.fro _ rows) => (rows[row]?).map (.ptr · off)
      | true, some (.arr _ rows) => (rows[row]?).map (.ptr · off)
      | _, _ => none
    | .sl r _ off len => match live, blk r with
      | _, some (.fro _ rows) => (window rows off len).map .sl
      | true, some (.arr _ rows) => (window rows off len).map .sl
      | _, _ => none
    | .clo fn first captured => (first.mapM (view live blk n)).bind fun a => (captured.mapM (view live blk n)).map (.clo fn a ·)
    | .iface t v => (view live blk n v).map (.iface t ·)

def asInt : AV → Option Int
  | .pd (.val (.int _ n)) => some n
  | _ => none
def asBool : AV → Option Bool
  | .pd (.val (.bool b)) => some b
  | _ => none

def intV (op : BinOp) (k : IntKind) (a b : Int) : Option Value :=
  match op with
  | .add => some (.int k (k.wrap (a + b)))
  | .sub => some (.int k (k.wrap (a - b)))
  | .mul => some (.int k (k.wrap (a * b)))
  | .quo => if b = 0 then none else some (.int k (k.wrap (a.tdiv b)))
  | .rem => if b = 0 then none else some (.int k (a.tmod b))
  | .and => some (.int k (k.wrap (BitVec.ofInt k.bits a &&& BitVec.ofInt k.bits b).toNat))
  | .or => some (.int k (k.wrap (BitVec.ofInt k.bits a ||| BitVec.ofInt k.bits b).toNat))
  | .xor => some (.int k (k.wrap (BitVec.ofInt k.bits a ^^^ BitVec.ofInt k.bits b).toNat))
  | .andNot => some (.int k (k.wrap (BitVec.ofInt k.bits a &&& ~~~ BitVec.ofInt k.bits b).toNat))
  | .eql => some (.bool (a == b))
  | .neq => some (.bool (a != b))
  | .lss => some (.bool (a < b))
  | .leq => some (.bool (a ≤ b))
  | .gtr => some (.bool (a > b))
  | .geq => some (.bool (a ≥ b))
  | _ => none
def shiftV (op : BinOp) (k : IntKind) (a b : Int) : Option Value :=
  if b < 0 then none else
  match op with
  | .shl => some (.int k (k.wrap (a * 2 ^ min b.toNat k.bits)))
  | .shr => some (.int k (a.fdiv (2 ^ min b.toNat k.bits)))
  | _ => none
def isShift : BinOp → Bool
  | .shl | .shr => true
  | _ => false
def strV (op : BinOp) (a b : ByteArray) : Option Value :=
  match op with
  | .add => if a.size + b.size ≤ 2 ^ 62 then some (.string (a ++ b)) else none
  | .eql => some (.bool (a.toList == b.toList))
  | .neq => some (.bool !(a.toList == b.toList))
  | .lss => some (.bool (Op.bytesLess a.toList b.toList))
  | .leq => some (.bool (Op.bytesLess a.toList b.toList || a.toList == b.toList))
  | .gtr => some (.bool !(Op.bytesLess a.toList b.toList || a.toList == b.toList))
  | .geq => some (.bool !(Op.bytesLess a.toList b.toList))
  | _ => none

/-- Is a pointer nil? -/
def nilP : AV → Option Bool
  | .pd (.val (.pointer none)) => some true
  | .pd (.ptr _ _) | .ptr _ _ | .eptr _ _ _ => some false
  | _ => none

/-- Is a slice nil? -/
def nilS : AV → Option Bool
  | .nil => some true
  | .pd (.sl (_ :: _)) => some false
  | .pd (.val (.slice (some _) _ _)) => some false
  | .sl _ _ _ (_ + 1) => some false
  | _ => none

/-- A field's or an element's cells in a value that is a struct or an array. -/
def partA (P : Program) (t : TypeId) (cs : List AV) (off : Nat) : Option AV :=
  (ti P t).bind fun i => if TypeDesc.agg i.desc then (window cs off i.size).map .agg else cs[off]?

/-! Structs that are compared. -/
def cmpA : AV → AV → Option Bool
  | .pd (.val (.int k a)), .pd (.val (.int k' b)) => if k = k' then some (a == b) else none
  | .pd (.val (.string a)), .pd (.val (.string b)) => some (a.toList == b.toList)
  | .pd (.val (.bool a)), .pd (.val (.bool b)) => some (a == b)
  | _, _ => none
def aggA : AV → Option (List AV)
  | .agg cs => some cs
  | .pd (.agg cs) => some (cs.map .pd)
  | _ => none
def cmpKind : TypeDesc → AV → Bool
  | .int _, .pd (.val (.int _ _)) => true
  | .string, .pd (.val (.string _)) => true
  | .bool, .pd (.val (.bool _)) => true
  | _, _ => false
def eqFs (P : Program) (E : TypeId → AV → AV → Option Bool) (xs ys : List AV) : List Field → Option Bool
  | [] => some true
  | f :: fs => if f.name = "_" then none else (partA P f.type xs f.offset).bind fun a => (partA P f.type ys f.offset).bind fun b => (E f.type a b).bind fun r => (eqFs P E xs ys fs).bind fun q => some (r && q)
def eqA (P : Program) : Nat → TypeId → AV → AV → Option Bool
  | 0, _, _, _ => none
  | d + 1, t, x, y => (ti P t).bind fun i => match i.desc with
    | .struct fs => if P.stoodInHeld t then none else (aggA x).bind fun xs => (aggA y).bind fun ys => eqFs P (eqA P d) xs ys fs.toList
    | i => if cmpKind i x then cmpA x y else none

def binV (P : Program) (op : BinOp) (t : TypeId) (x y : AV) : Option Value :=
  match x, y with
  | .pd (.val (.int k a)), .pd (.val (.int k' b)) =>
    if isShift op then shiftV op k a b else if k = k' then intV op k a b else none
  | .pd (.val (.string a)), .pd (.val (.string b)) => strV op a b
  | .pd (.val (.bool a)), .pd (.val (.bool b)) =>
    match descOf P t, op with
    | some .bool, .eql => some (.bool (a == b))
    | some .bool, .neq => some (.bool !(a == b))
    | _, _ => none
  | x, .pd (.val (.pointer none)) =>
    match descOf P t, op, nilP x with
    | some (.pointer _), .eql, some b => some (.bool b)
    | some (.pointer _), .neq, some b => some (.bool !b)
    | _, _, _ => none
  | x, .nil =>
    match descOf P t, op, nilS x with
    | some (.slice _), .eql, some b => some (.bool b)
    | some (.slice _), .neq, some b => some (.bool !b)
    | _, _, _ => none
  | x, y => if P.eqGuardType P.depth t then none else (aggA x).bind fun _ => (aggA y).bind fun _ => (eqA P 16 t x y).bind fun b =>
    match op with
    | .eql => some (.bool b)
    | .neq => some (.bool !b)
    | _ => none

def unV (op : UnOp) (x : AV) : Option Value :=
  match op, x with
  | .neg, .pd (.val (.int k n)) => some (.int k (k.wrap (0 - n)))
  | .xor, .pd (.val (.int k n)) => intV .xor k (if k.signed then -1 else k.max) n
  | .not, .pd (.val (.bool b)) => some (.bool !b)
  | _, _ => none

def fillA (place : Nat → Option (Nat × Nat)) (cells : List AV) : List (Nat × AV) → Option (List AV)
  | [] => some cells
  | (i, v) :: rest => (place i).bind fun (off, size) => (avCells v).bind fun cs =>
      if cs.length = size then (splice cells off cs).bind fun cells' => fillA place cells' rest else none

def places (P : Program) (fs : Array Field) : Option (List (Nat × Nat)) :=
  fs.toList.mapM fun f => (ti P f.type).map fun i => (f.offset, i.size)

def buildA (P : Program) (t : TypeId) (parts : List (Nat × AV)) : Option AV :=
  (ti P t).bind fun i => match i.desc with
    | .struct fs => (places P fs).bind fun ps => if i.zero.all cellish then (fillA (fun k => ps[k]?) (i.zero.map ofVal) parts).map .agg else none
    | .array _ e => (ti P e).bind fun j => if i.zero.all cellish then (fillA (fun k => some (k * j.size, j.size)) (i.zero.map ofVal) parts).map .agg else none
    | _ => none

/-- The row of a slice that a value makes. -/
def rowOf (blk : Blk) (sz : Nat) (v : AV) : Option (List PD) :=
  (avCells v).bind fun cs => if cs.length = sz then cs.mapM (view false blk 8) else none

def buildSliceA (P : Program) (t : TypeId) (len : Nat) (parts : List (Nat × AV)) : Option (Nat × List (List PD)) :=
  (ti P t).bind fun i => match i.desc with
    | .slice e => (ti P e).bind fun j =>
      if parts.map (·.1) = List.range len ∧ len * (j.size + 1) ≤ 2 ^ 24 then ((parts.map (·.2)).mapM (rowOf (fun _ => none) j.size)).map fun rows => (j.size, rows) else none
    | _ => none

def zeroRow (j : TI) : List PD := j.zero.map ofValP

def makeSliceA (P : Program) (t : TypeId) (len cap : Int) : Option (Nat × List (List PD)) :=
  (ti P t).bind fun i => match i.desc with
    | .slice e => (ti P e).bind fun j =>
      if 0 ≤ len ∧ len ≤ cap ∧ cap * (j.bytes + 1) ≤ 2 ^ 40 ∧ j.zero.length = j.size ∧ j.zero.all cellish = true then some (j.size, List.replicate cap.toNat (zeroRow j)) else none
    | _ => none

/-- The bounds of a slice expression without a third index. -/
def boundsA (len : Nat) (lo hi : Option AV) : Option (Nat × Nat) :=
  (match hi with | some h => asInt h | none => some (len : Int)).bind fun h =>
  (match lo with | some l => asInt l | none => some 0).bind fun l =>
  if 0 ≤ l ∧ l ≤ h ∧ h ≤ len then some (l.toNat, h.toNat) else none

def sliceA (P : Program) (t : TypeId) (x : AV) (lo hi : Option AV) : Option AV :=
  (ti P t).bind fun i => match i.desc, x with
    | .string, .pd (.val (.string s)) => (boundsA s.size lo hi).map fun (l, h) => .pd (.val (.string (s.extract l h)))
    | .slice e, .pd (.sl rows) => (ti P e).bind fun j => if rows.all (·.length = j.size) then (boundsA rows.length lo hi).map fun (l, h) => .pd (.sl ((rows.drop l).take (h - l))) else none
    | .slice e, .nil => (ti P e).bind fun _ => (boundsA 0 lo hi).map fun _ => .nil
    | .slice e, .sl r sz off len => (ti P e).bind fun j => if sz = j.size then (boundsA len lo hi).map fun (l, h) => .sl r sz (off + l) (h - l) else none
    | _, _ => none

def fieldAddrA (P : Program) (s : TypeId) (x : AV) (f : Nat) : Option AV :=
  (ti P s).bind fun i => match i.desc with
    | .struct fs => (fs[f]?).bind fun fd => (ti P fd.type).bind fun j =>
      if j.size = 0 then none else
      match x with
      | .ptr r off => some (.ptr r (off + fd.offset))
      | .eptr r row off => some (.eptr r row (off + fd.offset))
      | .pd (.ptr cs off) => some (.pd (.ptr cs (off + fd.offset)))
      | _ => none
    | _ => none

def indexAddrA (P : Program) (t : TypeId) (x ix : AV) : Option AV :=
  (ti P t).bind fun i => (asInt ix).bind fun k => match i.desc with
    | .slice e => (ti P e).bind fun j => match x with
      | .pd (.sl rows) => if 0 ≤ k then (rows[k.toNat]?).bind fun row => if row.length = j.size then some (.pd (.ptr row 0)) else none else none
      | .sl r sz off len => if 0 ≤ k ∧ k < len ∧ sz = j.size then some (.eptr r (off + k.toNat) 0) else none
      | _ => none
    | .array n e => (ti P e).bind fun j => if 0 ≤ k ∧ k < n then
      match x with
      | .ptr r off => some (.ptr r (off + k.toNat * j.size))
      | .eptr r row off => some (.eptr r row (off + k.toNat * j.size))
      | .pd (.ptr cs off) => some (.pd (.ptr cs (off + k.toNat * j.size)))
      | _ => none
      else none
    | _ => none

def fieldA (P : Program) (t : TypeId) (x : AV) (f : Nat) : Option AV :=
  (ti P t).bind fun i => match i.desc with
    | .struct fs => (fs[f]?).bind fun fd => match x with
      | .agg cs => partA P fd.type cs fd.offset
      | .pd (.agg cs) => partA P fd.type (cs.map .pd) fd.offset
      | _ => none
    | _ => none

def indexA (P : Program) (t : TypeId) (x ix : AV) : Option AV :=
  (ti P t).bind fun i => (asInt ix).bind fun k => match i.desc, x with
    | .array n e, .agg cs => if 0 ≤ k ∧ k < n then (ti P e).bind fun j => partA P e cs (k.toNat * j.size) else none
    | .array n e, .pd (.agg cs) => if 0 ≤ k ∧ k < n then (ti P e).bind fun j => partA P e (cs.map .pd) (k.toNat * j.size) else none
    | .string, .pd (.val (.string s)) => if 0 ≤ k ∧ k < s.size then (s[k.toNat]?).map fun b => .pd (.val (.int .u8 b.toNat)) else none
    | _, _ => none

/-- The cells behind an address. -/
def cellsA (blk : Blk) (n : Nat) : AV → Option (List AV)
  | .ptr r off => match blk r with
    | some (.vars cs) => window cs off n
    | _ => none
  | .eptr r row off => match blk r with
    | some (.arr _ rows) | some (.fro _ rows) => (rows[row]?).bind fun cs => (window cs off n).map (·.map .pd)
    | _ => none
  | .pd (.ptr cs off) => (window cs off n).map (·.map .pd)
  | _ => none

def loadA (P : Program) (blk : Blk) (t : TypeId) (x : AV) : Option AV :=
  (ti P t).bind fun i => (cellsA blk i.size x).bind fun cs =>
    if TypeDesc.agg i.desc then some (.agg cs) else match cs with
      | [c] => some c
      | _ => none

def storeA (P : Program) (blk : Blk) (t : TypeId) (x v : AV) : Option Blk :=
  (ti P t).bind fun i => (avCells v).bind fun new =>
    if new.length = i.size then
      match x with
      | .ptr r off => match blk r with
        | some (.vars cs) => (splice cs off new).map fun cs' => upd blk r (some (.vars cs'))
        | _ => none
      | .eptr r row off => match blk r with
        | some (.arr sz rows) => (new.mapM (view false blk 8)).bind fun ds => (rows[row]?).bind fun cs => (splice cs off ds).map fun cs' =>
          upd blk r (some (.arr sz (rows.set row cs')))
        | _ => none
      | _ => none
    else none

def lenA (P : Program) (t : TypeId) (x : AV) : Option Int :=
  (ti P t).bind fun i => match i.desc, x with
    | .string, .pd (.val (.string s)) => some s.size
    | .slice _, .pd (.sl rows) => some rows.length
    | .slice _, .nil => some 0
    | .slice _, .sl _ _ _ len => some len
    | .array n _, _ => some n
    | _, _ => none

/-- The rows that are appended or copied. -/
def srcA (blk : Blk) : AV → Option (List (List PD))
  | .nil => some []
  | .pd (.sl rows) => some rows
  | .pd (.val (.string s)) => some (s.data.toList.map fun b => [.val (.int .u8 b.toNat)])
  | .sl r _ off len => match blk r with
    | some (.arr _ rows) | some (.fro _ rows) => window rows off len
    | _ => none
  | _ => none

def isIntT : TypeDesc → Bool
  | .int _ => true
  | _ => false

def appendA (P : Program) (d : Nat) (blk : Blk) (ts : List TypeId) (s x : AV) : Option (AV × Blk) :=
  (ts[0]?).bind fun t0 => (ts[1]?).bind fun t1 => (ti P t0).bind fun i => (ti P t1).bind fun i1 => match i.desc with
    | .slice e => (ti P e).bind fun j => (srcA blk x).bind fun new =>
      if isIntT i1.desc then none else
      if j.bytes ≤ 2 ^ 20 ∧ j.zero.length = j.size ∧ new.all (·.length = j.size) then
        match s with
        | .nil => if new.length * (j.bytes + 1) ≤ 2 ^ 40 then
            match blk (.loc d 0) with
            | none => some (.sl (.loc d 0) j.size 0 new.length, upd blk (.loc d 0) (some (.arr j.size new)))
            | some _ => none
          else none
        | .sl r sz' off len => match blk r with
          | some (.arr sz rows) =>
            if sz = j.size ∧ sz' = sz then
              if off + len = rows.length then
                if (len + new.length) * (j.bytes + 1) ≤ 2 ^ 40 then
                  match blk (.loc d 0) with
                  | none => some (.sl (.loc d 0) sz 0 (len + new.length), upd (upd blk r (some .dead)) (.loc d 0) (some (.arr sz (rows.drop off ++ new))))
                  | some _ => none
                else none
              else if off + len + new.length ≤ rows.length then
                some (.sl r sz off (len + new.length), upd blk r (some (.arr sz (rows.take (off + len) ++ new ++ rows.drop (off + len + new.length)))))
              else none
            else none
          | _ => none
        | _ => none
      else none
    | _ => none

def copyA (P : Program) (blk : Blk) (ts : List TypeId) (dst src : AV) : Option (AV × Blk) :=
  (ts[0]?).bind fun t0 => (ti P t0).bind fun i => match i.desc with
    | .slice e => (ti P e).bind fun j => (srcA blk src).bind fun new =>
      if new.all (·.length = j.size) then
        match dst with
        | .nil => some (.pd (.val (.int .i64 0)), blk)
        | .sl r sz' off len => match blk r with
          | some (.arr sz rows) =>
            if sz = j.size ∧ sz' = sz ∧ off + len ≤ rows.length then
              let m := min new.length len
              some (.pd (.val (.int .i64 m)), upd blk r (some (.arr sz (rows.take off ++ new.take m ++ rows.drop (off + m)))))
            else none
          | _ => none
        | _ => none
      else none
    | _ => none

def clearA (P : Program) (blk : Blk) (ts : List TypeId) (x : AV) : Option (AV × Blk) :=
  (ts[0]?).bind fun t0 => (ti P t0).bind fun i => match i.desc with
    | .slice e => (ti P e).bind fun j =>
      match x with
      | .nil => some (.pd (.val (.tuple #[])), blk)
      | .sl r sz' off len => match blk r with
        | some (.arr sz rows) =>
          if sz = j.size ∧ sz' = sz ∧ off + len ≤ rows.length ∧ j.zero.length = j.size ∧ j.zero.all cellish = true then
            some (.pd (.val (.tuple #[])), upd blk r (some (.arr sz (rows.take off ++ List.replicate len (zeroRow j) ++ rows.drop (off + len)))))
          else none
        | _ => none
      | _ => none
    | _ => none

def convertA (P : Program) (src dst : TypeId) (x : AV) : Option AV :=
  (ti P src).bind fun _ => (ti P dst).bind fun j => match j.desc, x with
    | .int k, .pd (.val (.int _ n)) => some (.pd (.val (.int k (k.wrap n))))
    | .string, .pd (.val (.string s)) => some (.pd (.val (.string s)))
    | _, _ => none

/-- A function value: which function, and what it is called with besides. -/
def asFun : AV → Option (FuncId × List AV × List AV)
  | .clo (.func f) first captured => some (f, first, captured)
  | .pd (.clo (.func f) first captured) => some (f, first.map .pd, captured.map .pd)
  | _ => none

def callP (Γ : Gam) (blk : Blk) (f : FuncId) (args : List AV) : Option AV :=
  match Γ f with
  | some (.p F) => match args.mapM (view false blk 8) with
    | some ds => (F ds).map .pd
    | none => (args.mapM (view true blk 8)).bind fun ds => (F ds).bind fun r => if r.flat then some (.pd r) else none
  | _ => none

def maxV (x y : Value) : Option Value :=
  match x, y with
  | .int k a, .int _ b => some (.int k (if b > a then b else a))
  | _, _ => none
def minV (x y : Value) : Option Value :=
  match x, y with
  | .int k a, .int _ b => some (.int k (if b < a then b else a))
  | _, _ => none

inductive Cls where
  | N | R | W
  deriving DecidableEq, Inhabited

def isSliceT (P : Program) (t : TypeId) : Bool := match descOf P t with | some (.slice _) => true | _ => false

def cls (P : Program) (Γ : Gam) : Op → Cls
  | .load .. => .R
  | .store .. => .W
  | .convert src _ _ => if isSliceT P src then .R else .N
  | .call { callee := .builtin b, .. } => match b with
    | .len | .min | .max => .N
    | _ => .W
  | .call { callee := .value (.func f), .. } => match Γ f with
    | some (.g _) => .W
    | _ => .R
  | .call _ => .R
  | _ => .N

/-- Operations that ask nothing of the blocks: the value, and a block that they make. -/
def semN (P : Program) (r : Ref) (ρ : Operand → AV) : Op → Option (AV × Option Block)
  | .move x | .assign x => some (ρ x, none)
  | .pick c a b => (asBool (ρ c)).map fun t => (if t then ρ a else ρ b, none)
  | .alloc e => (ti P e).bind fun i => if i.zero.all cellish then some (.ptr r 0, some (.vars (i.zero.map ofVal))) else none
  | .box _ x => (avCells (ρ x)).map fun cs => (.ptr r 0, some (.vars cs))
  | .build t parts => (buildA P t (parts.toList.map fun (i, x) => (i, ρ x))).map fun v => (v, none)
  | .buildSlice t len parts => (buildSliceA P t len (parts.toList.map fun (i, x) => (i, ρ x))).map fun (sz, rows) => (.sl r sz 0 len, some (.arr sz rows))
  | .nilCheck x => match ρ x with
    | .ptr q o => some (.ptr q o, none)
    | .eptr q i o => some (.eptr q i o, none)
    | .pd (.ptr cs o) => some (.pd (.ptr cs o), none)
    | .clo (.func f) a b => some (.clo (.func f) a b, none)
    | .pd (.clo (.func f) a b) => some (.pd (.clo (.func f) a b), none)
    | _ => none
  | .binOp op t x y _ => (binV P op t (ρ x) (ρ y)).map fun v => (.pd (.val v), none)
  | .unOp op _ x => (unV op (ρ x)).map fun v => (.pd (.val v), none)
  | .convert src dst x => (convertA P src dst (ρ x)).map fun v => (v, none)
  | .makeInterface t x => (ti P t).bind fun i => match i.desc with
    | .interface _ => none
    | _ => some (.iface t (ρ x), none)
  | .makeFunc fn first captured => some (.clo fn (first.toList.map ρ) (captured.toList.map ρ), none)
  | .makeSlice t l c => (asInt (ρ l)).bind fun l => (asInt (ρ c)).bind fun c => (makeSliceA P t l c).map fun (sz, rows) => (.sl r sz 0 l.toNat, some (.arr sz rows))
  | .slice t x lo hi none => (sliceA P t (ρ x) (lo.map ρ) (hi.map ρ)).map fun v => (v, none)
  | .fieldAddr s x f => (fieldAddrA P s (ρ x) f).map fun v => (v, none)
  | .field t x f => (fieldA P t (ρ x) f).map fun v => (v, none)
  | .indexAddr t x ix => (indexAddrA P t (ρ x) (ρ ix)).map fun v => (v, none)
  | .index t x ix => (indexA P t (ρ x) (ρ ix)).map fun v => (v, none)
  | .extract t ix => match ρ t with
    | .tup vs => (vs[ix]?).map fun v => (v, none)
    | .pd (.tup vs) => (vs[ix]?).map fun v => (.pd v, none)
    | _ => none
  | .call { callee := .builtin .len, args, argTypes } => (argTypes[0]?).bind fun t => (args[0]?).bind fun x => (lenA P t (ρ x)).map fun n => (.pd (.val (.int .i64 n)), none)
  | .call { callee := .builtin .min, args, .. } => match args.toList.map ρ with
    | [.pd (.val x), .pd (.val y)] => (minV x y).map fun v => (.pd (.val v), none)
    | _ => none
  | .call { callee := .builtin .max, args, .. } => match args.toList.map ρ with
    | [.pd (.val x), .pd (.val y)] => (maxV x y).map fun v => (.pd (.val v), none)
    | _ => none
  | _ => none

def byteOf : List PD → Option UInt8
  | [.val (.int .u8 n)] => some (UInt8.ofNat n.toNat)
  | _ => none

def freshFrom (blk : Blk) (d : Nat) : Bool := (blk (.loc d 0)).isNone && (blk (.loc d 1)).isNone && (blk (.loc d 2)).isNone && (blk (.loc d 3)).isNone

def isVal : AV → Bool
  | .pd (.val _) => true
  | _ => false

def dstOk (n : Nat) : Option Tmp → Bool
  | some d => decide (d < n)
  | none => true

/-- Operations that read blocks. -/
def semR (P : Program) (Γ : Gam) (ρ : Operand → AV) (blk : Blk) : Op → Option AV
  | .load t x => loadA P blk t (ρ x)
  | .convert src dst x => (ti P src).bind fun i => (ti P dst).bind fun j => match i.desc, j.desc with
    | .slice e, .string => (ti P e).bind fun k => match k.desc with
      | .int .u8 => if isVal (ρ x) then none else (srcA blk (ρ x)).bind fun rows =>
        (rows.mapM byteOf).map fun bs => .pd (.val (.string ⟨bs.toArray⟩))
      | _ => none
    | _, _ => none
  | .call { callee := .value f, args, .. } => (asFun (ρ f)).bind fun (f, first, captured) => callP Γ blk f (first ++ args.toList.map ρ ++ captured)
  | _ => none

/-- Operations that write blocks. -/
def semW (P : Program) (Γ : Gam) (d : Nat) (ρ : Operand → AV) (blk : Blk) : Op → Option (AV × Blk)
  | .store t x v => (storeA P blk t (ρ x) (ρ v)).map fun b => (.und, b)
  | .call { callee := .builtin .append, args, argTypes } => (args[0]?).bind fun s => (args[1]?).bind fun x => appendA P d blk argTypes.toList (ρ s) (ρ x)
  | .call { callee := .builtin .copy, args, argTypes } => (args[0]?).bind fun s => (args[1]?).bind fun x => copyA P blk argTypes.toList (ρ s) (ρ x)
  | .call { callee := .builtin .clear, args, argTypes } => (args[0]?).bind fun s => clearA P blk argTypes.toList (ρ s)
  | .call { callee := .value (.func f), args, .. } => match Γ f with
    | some (.g G) => if freshFrom blk d then G d (args.toList.map ρ) blk else none
    | _ => none
  | _ => none

def stepA (P : Program) (Γ : Gam) (n : Nat) (o : Oper) (st : St) : Option St :=
  if dstOk n o.dst then
    match cls P Γ o.op with
    | .N => match o.dst, semN P (.loc (o.dst.getD 0) 0) (opnd st.env) o.op with
      | _, some (v, none) => some (st.put o.dst v)
      | some d, some (v, some B) => match st.blk (.loc d 0) with
        | none => some (St.put ⟨st.env, upd st.blk (.loc d 0) (some B)⟩ (some d) v)
        | some _ => none
      | _, _ => none
    | .R => (semR P Γ (opnd st.env) st.blk o.op).map (st.put o.dst)
    | .W => match o.dst, semW P Γ (o.dst.getD n) (opnd st.env) st.blk o.op with
      | _, some (v, blk') => some (St.put ⟨st.env, blk'⟩ o.dst v)
      | _, none => none
  else none

/-- What the slot of an operation holds that was passed over. -/
def skipped : AV := .pd (.val undef)
/-- Whether a guard lets through; one that looks at an operation that was passed over does not. -/
def gateA (v : AV) (want : Bool) : Option Bool := match v with
  | .pd (.val (.tuple ⟨[]⟩)) => some false
  | v => (asBool v).map fun b => b == want

def stepG (P : Program) (Γ : Gam) (n : Nat) (ds : List (Option Tmp)) (o : Oper) (st : St) : Option St :=
  match o.guard with
  | none => stepA P Γ n o st
  | some (j, want) => ((ds[j]?).bind id).bind fun t => (gateA (st.env t) want).bind fun b =>
    if b = true then stepA P Γ n o st else
    if dstOk n o.dst then some (st.put o.dst skipped) else none

def evalOps (P : Program) (Γ : Gam) (n : Nat) (ds : List (Option Tmp)) : List Oper → St → Option St
  | [], st => some st
  | o :: r, st => (stepG P Γ n ds o st).bind (evalOps P Γ n ds r)

end Go.Abs

/- What the operations that ask nothing of the blocks do: the model's run against the abstract one. -/
namespace Go.Abs
open Go.RowKit

theorem rel_val {I : Nat → Prop} {w : World} {ρ : Ref → Pl} {v x : Value} : ARel I w ρ (.pd (.val v)) x ↔ x = v := by simp only [ARel, VRel]
/-- What 'ti' tells of a type. -/
theorem ti_spec {P : Program} {t : TypeId} {i : TI} (h : ti P t = some i) :
    P.underlying t = some i.desc ∧ ∃ info z, P.info? t = some info ∧ info.size = i.size ∧ info.zero = some z ∧ z.cells.toList = i.zero ∧ info.bytes = i.bytes := by
  unfold ti at h
  cases hi : P.info? t with
  | none => simp [hi] at h
  | some info =>
    cases hd : P.underlying t with
    | none => simp [hi, hd] at h
    | some d =>
      cases hz : info.zero with
      | none => simp [hi, hd, hz] at h
      | some z =>
        simp [hi, hd, hz] at h
        subst h
        exact ⟨rfl, info, z, rfl, rfl, hz, by simp, rfl⟩

theorem run_bind {α β : Type} (P : Program) (s : Sem α) (f : α → Sem β) (w : World) :
    (s >>= f).run P w = match s.run P w with | .ok a w' => (f a).run P w' | .halt h w' => .halt h w' := by
  show (s.bind f).run P w = _
  induction s generalizing w with
  | pure a => rfl
  | load m a k ih =>
    simp only [Sem.bind, Sem.run]
    cases w.cell? a with
    | some v => exact ih v w
    | none => cases w.farLoad P a (m == .atomic) with
      | ok r => obtain ⟨v, l⟩ := r; exact ih v w
      | error h => rfl
  | store m a v k ih =>
    cases v with
    | agg _ => rfl
    | tuple _ => rfl
    | _ =>
      simp only [Sem.bind, Sem.run]
      cases w.cell? a with
      | some v =>
        simp only
        split
        · rfl
        · exact ih _
      | none => cases w.farStore P a _ (m == .atomic) with
        | ok r => obtain ⟨w', l⟩ := r; exact ih w'
        | error h => rfl
  | new o k ih => simp only [Sem.bind, Sem.run]; exact ih _ _
  | shape r k ih => simp only [Sem.bind, Sem.run]; exact ih _ _
  | freeze a n k ih => simp only [Sem.bind, Sem.run]; exact ih _
  | frozen a k ih => simp only [Sem.bind, Sem.run]; exact ih _ _
  | getObj r k ih =>
    simp only [Sem.bind, Sem.run]
    cases w.heap[r]? with
    | none => rfl
    | some o => cases o <;> first | rfl | exact ih _ _
  | setObj r o k ih =>
    simp only [Sem.bind, Sem.run]
    cases w.heap[r]? with
    | none => rfl
    | some o => cases o <;> first | rfl | exact ih _
  | choose q k ih =>
    simp only [Sem.bind, Sem.run]
    split
    · exact ih _ _
    · exact ih _ _
  | sys c k ih => simp only [Sem.bind, Sem.run]; exact ih _ _
  | program k ih => simp only [Sem.bind, Sem.run]; exact ih _ _
  | mark m k ih => simp only [Sem.bind, Sem.run]; exact ih _
  | halt h => rfl

theorem run_pure {α : Type} (P : Program) (a : α) (w : World) : (pure a : Sem α).run P w = .ok a w := rfl
theorem run_bind_ok {α β : Type} {P : Program} {s : Sem α} {f : α → Sem β} {w w' : World} {a : α} (h : s.run P w = .ok a w') :
    (s >>= f).run P w = (f a).run P w' := by rw [run_bind, h]

theorem run_underlying {P : Program} {t : TypeId} {i : TI} (h : ti P t = some i) (w : World) : (underlying t).run P w = .ok i.desc w := by
  obtain ⟨h1, _⟩ := ti_spec h
  show Sem.run P (Sem.program .pure >>= _) w = _
  rw [run_bind_ok (a := P) (w' := w) (by rfl), h1]; rfl
theorem run_typeInfo {P : Program} {t : TypeId} {i : TI} (h : ti P t = some i) : ∃ info z, info.size = i.size ∧ info.zero = some z ∧ z.cells.toList = i.zero ∧ info.bytes = i.bytes ∧
    ∀ w, (typeInfo t).run P w = .ok info w := by
  obtain ⟨_, info, z, h1, h2, h3, h4, h5⟩ := ti_spec h
  refine ⟨info, z, h2, h3, h4, h5, fun w => ?_⟩
  show Sem.run P (Sem.program .pure >>= _) w = _
  rw [run_bind_ok (a := P) (w' := w) (by rfl), h1]; rfl
theorem run_sizeOf {P : Program} {t : TypeId} {i : TI} (h : ti P t = some i) (w : World) : (sizeOf t).run P w = .ok i.size w := by
  obtain ⟨info, z, h2, h3, h4, h5, h6⟩ := run_typeInfo h
  show Sem.run P (typeInfo t >>= _) w = _
  rw [run_bind_ok (h6 w), h2]; rfl
theorem run_zeroValue {P : Program} {t : TypeId} {i : TI} (h : ti P t = some i) : ∃ z, z.cells.toList = i.zero ∧ ∀ w, (zeroValue t).run P w = .ok z w := by
  obtain ⟨info, z, h2, h3, h4, h5, h6⟩ := run_typeInfo h
  refine ⟨z, h4, fun w => ?_⟩
  show Sem.run P (typeInfo t >>= _) w = _
  rw [run_bind_ok (h6 w), h3]; rfl
theorem run_isAgg {P : Program} {t : TypeId} {i : TI} (h : ti P t = some i) (w : World) : (isAgg t).run P w = .ok (TypeDesc.agg i.desc) w := by
  show Sem.run P (underlying t >>= _) w = _
  rw [run_bind_ok (run_underlying h w)]
  cases i.desc <;> rfl

theorem ofVal_rel {I : Nat → Prop} {w : World} {ρ : Ref → Pl} (v : Value) : ARel I w ρ (ofVal v) v := by
  unfold ofVal; split <;> simp [ARel, VRel]
theorem ofVal_ok {D : Ref → Prop} (v : Value) : (ofVal v).ok D := by unfold ofVal; split <;> simp [AV.ok]
theorem ofVals_rel {I : Nat → Prop} {w : World} {ρ : Ref → Pl} : ∀ vs : List Value, ARels I w ρ (vs.map ofVal) vs
  | [] => by simp [ARels]
  | v :: vs => by simp only [List.map, ARels]; exact ⟨v, vs, rfl, ofVal_rel v, ofVals_rel vs⟩
theorem ofVals_ok {D : Ref → Prop} (vs : List Value) : AV.oks D (vs.map ofVal) := by
  rw [AV.oks_iff]; intro v hv; obtain ⟨x, _, rfl⟩ := List.mem_map.1 hv; exact ofVal_ok x

theorem nrm_rel {I : Nat → Prop} {w : World} {ρ : Ref → Pl} {v : AV} {x : Value} (h : ARel I w ρ v x) : ARel I w ρ (nrm v) x := by
  unfold nrm; split
  · simpa only [ARel, VRel] using h
  · exact h
theorem nrm_ok {D : Ref → Prop} {v : AV} (h : v.ok D) : (nrm v).ok D := by
  unfold nrm; split
  · simp only [AV.ok]
  · exact h
theorem opnd_rel {C : Ctx} {I : Nat → Prop} {ρ : Ref → Pl} {st : St} {a : Act} {w : World} (h : SCore C I ρ st a w) (x : Operand) : ARel I w ρ (opnd st.env x) (a.eval x) := by
  cases x with
  | tmp t => exact nrm_rel (h.env t)
  | const v => exact ofVal_rel v
  | global g => simp only [opnd, ARel]
  | func f => simp only [opnd, ARel, Act.eval]; exact ⟨#[], #[], rfl, by simp [ARels], by simp [ARels]⟩
theorem opnd_ok {C : Ctx} {I : Nat → Prop} {ρ : Ref → Pl} {st : St} {a : Act} {w : World} (h : SCore C I ρ st a w) (x : Operand) : (opnd st.env x).ok (dom st.blk) := by
  cases x with
  | tmp t => exact nrm_ok (h.ok t)
  | const v => exact ofVal_ok v
  | global g => simp only [opnd, AV.ok]
  | func f => simp only [opnd, AV.ok, AV.oks]; exact ⟨trivial, trivial⟩

theorem ARels.length {I : Nat → Prop} {w : World} {ρ : Ref → Pl} : ∀ {cs : List AV} {xs : List Value}, ARels I w ρ cs xs → xs.length = cs.length
  | [], xs, h => by simp only [ARels] at h; simp [h]
  | c :: cs, xs, h => by simp only [ARels] at h; obtain ⟨x, xs', rfl, _, h⟩ := h; simp [h.length]
theorem VRels.length {I : Nat → Prop} {w : World} : ∀ {cs : List PD} {xs : List Value}, VRels I w cs xs → xs.length = cs.length
  | [], xs, h => by simp only [VRels] at h; simp [h]
  | c :: cs, xs, h => by simp only [VRels] at h; obtain ⟨x, xs', rfl, _, h⟩ := h; simp [h.length]
theorem ARels.pd {I : Nat → Prop} {w : World} {ρ : Ref → Pl} : ∀ {cs : List PD} {xs : List Value}, ARels I w ρ (cs.map .pd) xs ↔ VRels I w cs xs
  | [], xs => by simp [ARels, VRels]
  | c :: cs, xs => by simp only [List.map, ARels, VRels, ARel, ARels.pd (cs := cs)]
theorem ARels.append {I : Nat → Prop} {w : World} {ρ : Ref → Pl} : ∀ {cs ds : List AV} {xs ys : List Value}, ARels I w ρ cs xs → ARels I w ρ ds ys → ARels I w ρ (cs ++ ds) (xs ++ ys)
  | [], ds, xs, ys, h, k => by simp only [ARels] at h; subst h; simpa using k
  | c :: cs, ds, xs, ys, h, k => by
    simp only [ARels] at h; obtain ⟨x, xs', rfl, h1, h2⟩ := h
    simp only [List.cons_append, ARels]; exact ⟨x, xs' ++ ys, rfl, h1, h2.append k⟩
theorem ARels.take {I : Nat → Prop} {w : World} {ρ : Ref → Pl} : ∀ {cs : List AV} {xs : List Value} (n : Nat), ARels I w ρ cs xs → ARels I w ρ (cs.take n) (xs.take n)
  | [], xs, n, h => by simp only [ARels] at h; subst h; simp [ARels]
  | c :: cs, xs, 0, h => by simp [ARels]
  | c :: cs, xs, n + 1, h => by
    simp only [ARels] at h; obtain ⟨x, xs', rfl, h1, h2⟩ := h
    simp only [List.take_succ_cons, ARels]; exact ⟨x, _, rfl, h1, h2.take n⟩
theorem ARels.drop {I : Nat → Prop} {w : World} {ρ : Ref → Pl} : ∀ {cs : List AV} {xs : List Value} (n : Nat), ARels I w ρ cs xs → ARels I w ρ (cs.drop n) (xs.drop n)
  | [], xs, n, h => by simp only [ARels] at h; subst h; simp [ARels]
  | c :: cs, xs, 0, h => by simpa using h
  | c :: cs, xs, n + 1, h => by
    simp only [ARels] at h; obtain ⟨x, xs', rfl, h1, h2⟩ := h
    simpa using h2.drop n
theorem ARels.get {I : Nat → Prop} {w : World} {ρ : Ref → Pl} : ∀ {cs : List AV} {xs : List Value} {n : Nat} {c : AV}, ARels I w ρ cs xs → cs[n]? = some c → ∃ x, xs[n]? = some x ∧ ARel I w ρ c x
  | [], xs, n, c, h, hc => by simp at hc
  | d :: cs, xs, 0, c, h, hc => by
    simp only [ARels] at h; obtain ⟨x, xs', rfl, h1, h2⟩ := h
    simp at hc; subst hc; exact ⟨x, by simp, h1⟩
  | d :: cs, xs, n + 1, c, h, hc => by
    simp only [ARels] at h; obtain ⟨x, xs', rfl, h1, h2⟩ := h
    obtain ⟨y, hy, hr⟩ := h2.get (n := n) (by simpa using hc)
    exact ⟨y, by simpa using hy, hr⟩
theorem AV.oks_take {D : Ref → Prop} {cs : List AV} (n : Nat) (h : AV.oks D cs) : AV.oks D (cs.take n) := by
  rw [AV.oks_iff] at h ⊢; exact fun v hv => h v (List.mem_of_mem_take hv)
theorem AV.oks_drop {D : Ref → Prop} {cs : List AV} (n : Nat) (h : AV.oks D cs) : AV.oks D (cs.drop n) := by
  rw [AV.oks_iff] at h ⊢; exact fun v hv => h v (List.mem_of_mem_drop hv)
theorem AV.oks_append {D : Ref → Prop} {cs ds : List AV} (h : AV.oks D cs) (k : AV.oks D ds) : AV.oks D (cs ++ ds) := by
  rw [AV.oks_iff] at h k ⊢; intro v hv; rcases List.mem_append.1 hv with hv | hv
  · exact h v hv
  · exact k v hv
theorem AV.oks_get {D : Ref → Prop} {cs : List AV} {n : Nat} {c : AV} (h : AV.oks D cs) (hc : cs[n]? = some c) : c.ok D :=
  AV.oks_iff.1 h c (List.mem_of_getElem? hc)
theorem splice_some {α : Type} {cs : List α} {off : Nat} {new r : List α} (h : splice cs off new = some r) :
    off + new.length ≤ cs.length ∧ r = cs.take off ++ new ++ cs.drop (off + new.length) := by
  unfold splice at h; split at h
  · cases h; exact ⟨by assumption, rfl⟩
  · cases h
theorem window_some {α : Type} {cs : List α} {off n : Nat} {r : List α} (h : window cs off n = some r) : off + n ≤ cs.length ∧ r = (cs.drop off).take n := by
  unfold window at h; split at h
  · cases h; exact ⟨by assumption, rfl⟩
  · cases h
theorem ARels.splice {I : Nat → Prop} {w : World} {ρ : Ref → Pl} {cs new r : List AV} {xs ys : List Value} {off : Nat} (h : ARels I w ρ cs xs) (k : ARels I w ρ new ys)
    (e : Abs.splice cs off new = some r) : ARels I w ρ r (xs.take off ++ ys ++ xs.drop (off + ys.length)) := by
  obtain ⟨_, rfl⟩ := splice_some e
  rw [k.length]
  exact ((h.take off).append k).append (h.drop _)

/-- The cells of a value. -/
theorem avCells_rel {I : Nat → Prop} {w : World} {ρ : Ref → Pl} {v : AV} {cs : List AV} {x : Value} (hc : avCells v = some cs) (h : ARel I w ρ v x) :
    Cellish x.cells.toList ∧ ARels I w ρ cs x.cells.toList := by
  have one : ∀ (v : AV), cs = [v] → ARel I w ρ v x → cellish x = true → Cellish x.cells.toList ∧ ARels I w ρ cs x.cells.toList := by
    intro v e hr hx
    have : x.cells = #[x] := by cases x <;> first | rfl | (simp [cellish] at hx)
    rw [this, e]
    exact ⟨by intro y hy; simp at hy; subst hy; exact hx, by simp only [ARels]; exact ⟨x, [], rfl, hr, rfl⟩⟩
  cases v with
  | und => simp [avCells] at hc
  | agg cs' => simp only [avCells, Option.some.injEq] at hc; subst hc; simp only [ARel] at h; obtain ⟨vs, rfl, hce, h⟩ := h; exact ⟨hce, h⟩
  | pd d => cases d with
    | val u =>
      simp only [avCells] at hc
      split at hc
      · cases hc; rename_i hu; have := rel_val.1 h; subst this; exact one _ rfl h hu
      · cases hc
    | agg cs' => simp only [avCells, Option.some.injEq] at hc; subst hc; simp only [ARel, VRel] at h; obtain ⟨vs, rfl, hce, h⟩ := h; exact ⟨hce, ARels.pd.2 h⟩
    | tup cs' => simp [avCells] at hc
    | sl rows => simp only [avCells, Option.some.injEq] at hc; refine one _ hc.symm h ?_; simp only [ARel, VRel] at h; obtain ⟨_, _, rfl, _⟩ := h; rfl
    | ptr cs' o => simp only [avCells, Option.some.injEq] at hc; refine one _ hc.symm h ?_; simp only [ARel, VRel] at h; obtain ⟨_, _, rfl, _⟩ := h; rfl
    | clo f a b => simp only [avCells, Option.some.injEq] at hc; refine one _ hc.symm h ?_; simp only [ARel, VRel] at h; obtain ⟨_, _, rfl, _⟩ := h; rfl
    | iface t d => simp only [avCells, Option.some.injEq] at hc; refine one _ hc.symm h ?_; simp only [ARel, VRel] at h; obtain ⟨_, rfl, _⟩ := h; rfl
  | nil => simp only [avCells, Option.some.injEq] at hc; refine one _ hc.symm h ?_; simp only [ARel] at h; subst h; rfl
  | tup cs' => simp [avCells] at hc
  | ptr r o => simp only [avCells, Option.some.injEq] at hc; refine one _ hc.symm h ?_; simp only [ARel] at h; obtain ⟨_, rfl, _⟩ := h; rfl
  | eptr r i o => simp only [avCells, Option.some.injEq] at hc; refine one _ hc.symm h ?_; simp only [ARel] at h; obtain ⟨_, rfl, _⟩ := h; rfl
  | sl r z o n => simp only [avCells, Option.some.injEq] at hc; refine one _ hc.symm h ?_; simp only [ARel] at h; obtain ⟨_, _, rfl, _⟩ := h; rfl
  | clo f a b => simp only [avCells, Option.some.injEq] at hc; refine one _ hc.symm h ?_; simp only [ARel] at h; obtain ⟨_, _, rfl, _⟩ := h; rfl
  | iface t v => simp only [avCells, Option.some.injEq] at hc; refine one _ hc.symm h ?_; simp only [ARel] at h; obtain ⟨_, rfl, _⟩ := h; rfl
theorem avCells_ok {D : Ref → Prop} {v : AV} {cs : List AV} (hc : avCells v = some cs) (h : v.ok D) : AV.oks D cs := by
  cases v with
  | pd d => cases d <;> simp only [avCells, Option.some.injEq, reduceCtorEq] at hc <;> first | (subst hc; simp [AV.oks, AV.ok, AV.oks_pd]; done) | skip
            · split at hc <;> cases hc; simp [AV.oks, AV.ok]
  | agg cs' => simp only [avCells, Option.some.injEq] at hc; subst hc; simpa only [AV.ok] using h
  | _ => simp only [avCells, Option.some.injEq, reduceCtorEq] at hc <;> (subst hc; simp only [AV.oks]; exact ⟨h, trivial⟩)

theorem Cellish.append {xs ys : List Value} (h : Cellish xs) (k : Cellish ys) : Cellish (xs ++ ys) := by
  intro v hv; rcases List.mem_append.1 hv with hv | hv
  · exact h v hv
  · exact k v hv
theorem Cellish.take {xs : List Value} (n : Nat) (h : Cellish xs) : Cellish (xs.take n) := fun v hv => h v (List.mem_of_mem_take hv)
theorem Cellish.drop {xs : List Value} (n : Nat) (h : Cellish xs) : Cellish (xs.drop n) := fun v hv => h v (List.mem_of_mem_drop hv)

end Go.Abs

/- The operations that ask nothing of the blocks, one by one. -/
namespace Go.Abs
open Go.RowKit

instance : LawfulMonad Sem := LawfulMonad.mk'
  (id_map := fun x => by show x.bind _ = x; exact Sem.bind_pure' x)
  (pure_bind := fun _ _ => rfl)
  (bind_assoc := fun x f g => Sem.bind_assoc' x f g)
  (bind_pure_comp := fun _ _ => rfl)

theorem run_mapM_list {α β : Type} {P : Program} {w : World} {f : α → Sem β} {g : α → Option β} (hf : ∀ a b, g a = some b → (f a).run P w = .ok b w) :
    ∀ (l : List α) (r : List β), l.mapM g = some r → (l.mapM f).run P w = .ok r w
  | [], r, h => by simp at h; subst h; rfl
  | a :: l, r, h => by
    rw [List.mapM_cons] at h
    cases hb : g a with
    | none => rw [hb] at h; simp at h
    | some b =>
      rw [hb] at h
      cases hl : l.mapM g with
      | none => rw [hl] at h; simp at h
      | some r' =>
        rw [hl] at h; simp at h; subst h
        rw [List.mapM_cons, run_bind_ok (hf a b hb), run_bind_ok (run_mapM_list hf l r' hl)]; rfl

theorem places_run {P : Program} {fs : Array Field} {ps : List (Nat × Nat)} (h : places P fs = some ps) (w : World) :
    (fs.mapM fun f : Field => (do pure (f.offset, ← sizeOf f.type) : Sem (Nat × Nat))).run P w = .ok ps.toArray w := by
  rw [Array.mapM_eq_mapM_toList]
  have := run_mapM_list (P := P) (w := w) (f := fun f : Field => (do pure (f.offset, ← sizeOf f.type) : Sem (Nat × Nat))) (g := fun f : Field => (ti P f.type).map fun i : TI => (f.offset, i.size))
    (fun f b hb => by
      cases ht : ti P f.type with
      | none => simp [ht] at hb
      | some i => simp [ht] at hb; subst hb; exact (run_bind_ok (run_sizeOf ht w)).trans rfl) fs.toList ps h
  rw [map_eq_pure_bind, run_bind_ok this]; rfl

theorem foldl_set_splice (cells : Array Value) (off : Nat) : ∀ (cs : List Value) (k : Nat), off + k + cs.length ≤ cells.size →
    ((cs.zipIdx k).foldl (fun (a : Array Value) (x : Value × Nat) => a.setIfInBounds (off + x.2) x.1) cells).toList =
      cells.toList.take (off + k) ++ cs ++ cells.toList.drop (off + k + cs.length) := by
  intro cs
  induction cs generalizing cells with
  | nil => intro k _; simp
  | cons c cs ih =>
    intro k hk
    simp only [List.length_cons] at hk
    simp only [List.zipIdx_cons, List.foldl_cons]
    rw [ih (cells.setIfInBounds (off + k) c) (k + 1) (by simp; omega)]
    have hlt : off + k < cells.toList.length := by simp; omega
    rw [Array.toList_setIfInBounds]
    rw [show off + (k + 1) = off + k + 1 by omega, List.take_succ_eq_append_getElem (by simpa using hlt)]
    rw [List.take_set_of_le (Nat.le_refl _), List.drop_set_of_lt (by omega)]
    simp
    omega

theorem fill_run {I : Nat → Prop} {w : World} {ρ : Ref → Pl} {place : Nat → Option (Nat × Nat)} {place' : Nat → Option (Nat × Nat)} (hp : ∀ i p, place i = some p → place' i = some p) :
    ∀ (parts : List (Nat × AV)) (parts' : List (Nat × Value)) (cells r : List AV) (cs : Array Value), fillA place cells parts = some r →
      parts.map (·.1) = parts'.map (·.1) → ARels I w ρ (parts.map (·.2)) (parts'.map (·.2)) → ARels I w ρ cells cs.toList → Cellish cs.toList →
      ∃ cs', Instr.fill place' cs parts' = some cs' ∧ Cellish cs'.toList ∧ ARels I w ρ r cs'.toList
  | [], parts', cells, r, cs, h, h1, h2, h3, h4 => by
    cases parts' with
    | nil => simp only [fillA] at h; cases h; exact ⟨cs, rfl, h4, h3⟩
    | cons _ _ => simp at h1
  | (i, v) :: rest, parts', cells, r, cs, h, h1, h2, h3, h4 => by
    cases parts' with
    | nil => simp at h1
    | cons p' rest' =>
      obtain ⟨i', v'⟩ := p'
      simp only [List.map_cons, List.cons.injEq] at h1
      obtain ⟨rfl, h1⟩ := h1
      simp only [List.map_cons, ARels] at h2
      obtain ⟨x, xs, e, hv, hrest⟩ := h2
      cases e
      simp only [fillA, Option.bind_eq_some_iff] at h
      obtain ⟨⟨off, size⟩, hpl, cs1, hc1, h⟩ := h
      split at h
      · rename_i hlen
        simp only [Option.bind_eq_some_iff] at h
        obtain ⟨cells', hsp, h⟩ := h
        obtain ⟨hce, hcr⟩ := avCells_rel hc1 hv
        have hcl := hcr.length
        have hbd := (splice_some hsp).1
        have h3l := h3.length
        simp only [Array.length_toList] at h3l hcl
        simp only [Instr.fill, hp i _ hpl]
        rw [if_neg (by simp; omega)]
        have hf := foldl_set_splice cs off v'.cells.toList 0 (by simp; omega)
        refine fill_run hp rest rest' cells' r _ h h1 hrest ?_ ?_
        · have := h3.splice hcr hsp
          rw [← Array.foldl_toList, Array.toList_zipIdx]
          simp only [Nat.add_zero] at hf
          rw [hf]
          exact this
        · rw [← Array.foldl_toList, Array.toList_zipIdx]
          simp only [Nat.add_zero] at hf
          rw [hf]
          exact ((h4.take _).append hce).append (h4.drop _)
      · cases h

theorem window_rel {I : Nat → Prop} {w : World} {ρ : Ref → Pl} {cs r : List AV} {xs : Array Value} {off n : Nat} (h : ARels I w ρ cs xs.toList) (e : window cs off n = some r) :
    ARels I w ρ r (xs.extract off (off + n)).toList := by
  obtain ⟨hb, rfl⟩ := window_some e
  have := (h.drop off).take n
  rwa [Array.toList_extract, List.extract_eq_take_drop, Nat.add_sub_cancel_left]

/-- A part of a struct or an array. -/
theorem partA_run {P : Program} {I : Nat → Prop} {w : World} {ρ : Ref → Pl} {D : Ref → Prop} {t : TypeId} {cs : List AV} {xs : Array Value} {off : Nat} {v : AV}
    (h : partA P t cs off = some v) (hce : Cellish xs.toList) (hc : ARels I w ρ cs xs.toList) (hok : AV.oks D cs) : ∃ x, (part t xs off).run P w = .ok x w ∧ ARel I w ρ v x ∧ v.ok D := by
  simp only [partA, Option.bind_eq_some_iff] at h
  obtain ⟨i, ht, h⟩ := h
  unfold part
  rw [run_bind_ok (run_isAgg ht w)]
  by_cases ha : TypeDesc.agg i.desc = true
  · simp only [ha, if_true, Option.map_eq_some_iff] at h ⊢
    obtain ⟨r, hw, rfl⟩ := h
    refine ⟨.agg (xs.extract off (off + i.size)), ?_, ?_, ?_⟩
    · rw [run_bind_ok (run_sizeOf ht w)]; rfl
    · simp only [ARel]; exact ⟨_, rfl, by rw [Array.toList_extract, List.extract_eq_take_drop]; exact (hce.drop _).take _, window_rel hc hw⟩
    · simp only [AV.ok]; rw [(window_some hw).2]; exact AV.oks_take _ (AV.oks_drop _ hok)
  · simp only [Bool.not_eq_true] at ha
    simp only [ha, Bool.false_eq_true, if_false] at h ⊢
    obtain ⟨x, hx, hr⟩ := hc.get h
    have hx' : xs[off]? = some x := by rw [← Array.getElem?_toList]; exact hx
    exact ⟨x, by rw [hx']; rfl, hr, AV.oks_get hok h⟩

theorem buildA_run {P : Program} {I : Nat → Prop} {w : World} {ρ : Ref → Pl} {D : Ref → Prop} {t : TypeId} {parts : List (Nat × AV)} {parts' : Array (Nat × Value)} {v : AV}
    (h : buildA P t parts = some v) (h1 : parts.map (·.1) = parts'.toList.map (·.1)) (h2 : ARels I w ρ (parts.map (·.2)) (parts'.toList.map (·.2))) (hok : AV.oks D (parts.map (·.2))) :
    ∃ x, (Instr.build t parts').run P w = .ok x w ∧ ARel I w ρ v x ∧ v.ok D := by
  have okfill : ∀ (place : Nat → Option (Nat × Nat)) (parts : List (Nat × AV)) (cells r : List AV), fillA place cells parts = some r → AV.oks D cells → AV.oks D (parts.map (·.2)) → AV.oks D r := by
    intro place parts
    induction parts with
    | nil => intro cells r h hc _; simp only [fillA] at h; cases h; exact hc
    | cons p rest ih =>
      obtain ⟨i, u⟩ := p
      intro cells r h hc hp
      simp only [fillA, Option.bind_eq_some_iff] at h
      obtain ⟨⟨off, size⟩, _, cs1, hc1, h⟩ := h
      split at h
      · simp only [Option.bind_eq_some_iff] at h
        obtain ⟨cells', hsp, h⟩ := h
        simp only [List.map_cons, AV.oks] at hp
        refine ih cells' r h ?_ hp.2
        rw [(splice_some hsp).2]
        exact AV.oks_append (AV.oks_append (AV.oks_take _ hc) (avCells_ok hc1 hp.1)) (AV.oks_drop _ hc)
      · cases h
  simp only [buildA, Option.bind_eq_some_iff] at h
  obtain ⟨i, ht, h⟩ := h
  obtain ⟨z, hz, hzr⟩ := run_zeroValue ht
  unfold Instr.build
  rw [run_bind_ok (hzr w), run_bind_ok (run_underlying ht w)]
  split at h
  · rename_i fs hd
    simp only [Option.bind_eq_some_iff] at h
    obtain ⟨ps, hps, h⟩ := h
    split at h
    case isFalse => cases h
    rename_i hzc
    simp only [Option.map_eq_some_iff] at h
    obtain ⟨r, hf, rfl⟩ := h
    obtain ⟨cs', hcs, hce, hr⟩ := fill_run (place' := fun k => ps.toArray[k]?) (by intro i p h; simpa using h) parts parts'.toList _ r z.cells hf h1 h2 (by rw [hz]; exact ofVals_rel _) (by rw [hz]; exact fun v hv => List.all_eq_true.1 hzc v hv)
    refine ⟨.agg cs', ?_, by simp only [ARel]; exact ⟨cs', rfl, hce, hr⟩, by simp only [AV.ok]; exact okfill _ parts _ r hf (ofVals_ok _) hok⟩
    rw [hd]
    simp only
    rw [run_bind_ok (places_run hps w)]
    rw [show Instr.fill (fun x => ps.toArray[x]?) z.cells parts'.toList = some cs' from hcs]
    rfl
  · rename_i n e hd
    simp only [Option.bind_eq_some_iff] at h
    obtain ⟨j, hj, h⟩ := h
    split at h
    case isFalse => cases h
    rename_i hzc
    simp only [Option.map_eq_some_iff] at h
    obtain ⟨r, hf, rfl⟩ := h
    obtain ⟨cs', hcs, hce, hr⟩ := fill_run (place' := fun k => some (k * j.size, j.size)) (by intro i p h; exact h) parts parts'.toList _ r z.cells hf h1 h2 (by rw [hz]; exact ofVals_rel _) (by rw [hz]; exact fun v hv => List.all_eq_true.1 hzc v hv)
    refine ⟨.agg cs', ?_, by simp only [ARel]; exact ⟨cs', rfl, hce, hr⟩, by simp only [AV.ok]; exact okfill _ parts _ r hf (ofVals_ok _) hok⟩
    rw [hd]
    simp only
    rw [run_bind_ok (run_sizeOf hj w)]
    rw [show Instr.fill (fun i => some (i * j.size, j.size)) z.cells parts'.toList = some cs' from hcs]
    rfl
  · cases h

theorem asInt_rel {I : Nat → Prop} {w : World} {ρ : Ref → Pl} {v : AV} {n : Int} {x : Value} (h : asInt v = some n) (hr : ARel I w ρ v x) : ∃ k, x = .int k n := by
  unfold asInt at h
  split at h
  · cases h; exact ⟨_, rel_val.1 hr⟩
  · cases h
theorem asBool_rel {I : Nat → Prop} {w : World} {ρ : Ref → Pl} {v : AV} {n : Bool} {x : Value} (h : asBool v = some n) (hr : ARel I w ρ v x) : x = .bool n := by
  unfold asBool at h
  split at h
  · cases h; exact rel_val.1 hr
  · cases h

end Go.Abs

/- More operations that ask nothing of the blocks. -/
namespace Go.Abs
open Go.RowKit

section
variable {P : Program} {I : Nat → Prop} {w : World} {ρ : Ref → Pl} {D : Ref → Prop}

/-- A value-result without a block: what it runs to, and that it is right. -/
def Good (P : Program) (I : Nat → Prop) (w : World) (ρ : Ref → Pl) (D : Ref → Prop) (s : Sem Value) (v : AV) : Prop :=
  ∃ x, s.run P w = .ok x w ∧ ARel I w ρ v x ∧ v.ok D

theorem good_val {s : Sem Value} {v : Value} (h : s.run P w = .ok v w) : Good P I w ρ D s (.pd (.val v)) := ⟨v, h, rel_val.2 rfl, by simp [AV.ok]⟩

theorem VRows.get : ∀ {rows : List (List PD)} {b off sz k : Nat} {row : List PD}, VRows I w b off sz rows → rows[k]? = some row → row.length = sz ∧ VAt I w b (off + k * sz) row
  | [], b, off, sz, k, row, _, h => by simp at h
  | r :: rs, b, off, sz, 0, row, h, hk => by
    simp only [VRows] at h; simp at hk; subst hk; simpa using ⟨h.1, h.2.1⟩
  | r :: rs, b, off, sz, k + 1, row, h, hk => by
    simp only [VRows] at h
    have := VRows.get (k := k) h.2.2 (by simpa using hk)
    rw [show off + (k + 1) * sz = off + sz + k * sz by rw [Nat.add_mul]; omega]
    exact this
theorem VRows.take : ∀ {rows : List (List PD)} {b off sz : Nat} (n : Nat), VRows I w b off sz rows → VRows I w b off sz (rows.take n)
  | [], b, off, sz, n, _ => by simp [VRows]
  | r :: rs, b, off, sz, 0, h => by simp [VRows]
  | r :: rs, b, off, sz, n + 1, h => by simp only [VRows, List.take_succ_cons] at h ⊢; exact ⟨h.1, h.2.1, h.2.2.take n⟩
theorem VRows.drop : ∀ {rows : List (List PD)} {b off sz : Nat} (n : Nat), VRows I w b off sz rows → VRows I w b (off + n * sz) sz (rows.drop n)
  | [], b, off, sz, n, _ => by simp [VRows]
  | r :: rs, b, off, sz, 0, h => by simpa using h
  | r :: rs, b, off, sz, n + 1, h => by
    simp only [VRows, List.drop_succ_cons] at h ⊢
    rw [show off + (n + 1) * sz = off + sz + n * sz by rw [Nat.add_mul]; omega]
    exact h.2.2.drop n
theorem VRows.append : ∀ {r1 r2 : List (List PD)} {b off sz : Nat}, VRows I w b off sz r1 → VRows I w b (off + r1.length * sz) sz r2 → VRows I w b off sz (r1 ++ r2)
  | [], r2, b, off, sz, _, h => by simpa using h
  | r :: rs, r2, b, off, sz, h, k => by
    simp only [VRows, List.cons_append] at h ⊢
    refine ⟨h.1, h.2.1, h.2.2.append ?_⟩
    rw [show off + (r :: rs).length * sz = off + sz + rs.length * sz by simp [Nat.add_mul]; omega] at k
    exact k
theorem VAt.get : ∀ {cs : List PD} {b off k : Nat} {c : PD}, VAt I w b off cs → cs[k]? = some c → ∃ x, World.cellAt w b (off + k) = some x ∧ cellish x = true ∧ VRel I w c x
  | [], b, off, k, c, _, h => by simp at h
  | d :: ds, b, off, 0, c, h, hk => by simp only [VAt] at h; simp at hk; subst hk; simpa using h.1
  | d :: ds, b, off, k + 1, c, h, hk => by
    simp only [VAt] at h
    have := VAt.get (k := k) h.2 (by simpa using hk)
    rwa [show off + (k + 1) = off + 1 + k by omega]

theorem addr_add (b o n : Nat) : (⟨b, o, none⟩ : Addr).add n = ⟨b, o + n, none⟩ := by
  unfold Addr.add; split
  · subst_vars; rfl
  · rfl

theorem fieldAddrA_run {s : TypeId} {x : AV} {f : Nat} {v : AV} {x' : Value} (h : fieldAddrA P s x f = some v) (hx : ARel I w ρ x x') (hok : x.ok D) :
    Good P I w ρ D (Instr.fieldAt s x' f) v := by
  simp only [fieldAddrA, Option.bind_eq_some_iff] at h
  obtain ⟨i, ht, h⟩ := h
  split at h
  case h_2 => cases h
  rename_i fs hd
  simp only [Option.bind_eq_some_iff] at h
  obtain ⟨fd, hf, j, hj, h⟩ := h
  split at h
  · cases h
  rename_i hsz
  have run : ∀ ad : Addr, (Instr.fieldAt s (.pointer (some ad)) f).run P w = .ok (.pointer (some (ad.add fd.offset))) w := by
    intro ad
    unfold Instr.fieldAt
    rw [run_bind_ok (run_underlying ht w), hd]
    simp only [hf, Instr.sureAddr]
    show Sem.run P (Sem.bind (pure ad) _) w = _
    show Sem.run P (fieldPlace ad fd >>= _) w = _
    have : (fieldPlace ad fd).run P w = .ok (ad.add fd.offset) w := by
      unfold fieldPlace
      rw [run_bind_ok (run_sizeOf hj w), if_neg hsz]; rfl
    rw [run_bind_ok this]; rfl
  split at h
  · cases h
    simp only [ARel] at hx; obtain ⟨ad, rfl, hx⟩ := hx
    refine ⟨_, run ad, ?_, by simpa only [AV.ok] using hok⟩
    simp only [ARel]
    refine ⟨_, rfl, fun b o ct sz hr => ?_⟩
    rw [hx b o ct sz hr, addr_add]; simp only [Nat.add_assoc]
  · cases h
    simp only [ARel] at hx; obtain ⟨ad, rfl, hx⟩ := hx
    refine ⟨_, run ad, ?_, by simpa only [AV.ok] using hok⟩
    simp only [ARel]
    refine ⟨_, rfl, fun b o ct sz hr => ?_⟩
    rw [hx b o ct sz hr, addr_add]; simp only [Nat.add_assoc]
  · cases h
    simp only [ARel, VRel] at hx; obtain ⟨b, o, rfl, hI, hv⟩ := hx
    refine ⟨_, run _, ?_, by simp only [AV.ok]⟩
    simp only [ARel, VRel]
    exact ⟨b, o, by rw [addr_add]; simp only [Nat.add_assoc], hI, hv⟩
  · cases h

theorem indexAddrA_run {t : TypeId} {x ix : AV} {v : AV} {x' ix' : Value} (h : indexAddrA P t x ix = some v) (hx : ARel I w ρ x x') (hix : ARel I w ρ ix ix') (hok : x.ok D) :
    Good P I w ρ D (Instr.indexAt t x' ix') v := by
  simp only [indexAddrA, Option.bind_eq_some_iff] at h
  obtain ⟨i, ht, k, hk, h⟩ := h
  obtain ⟨kk, rfl⟩ := asInt_rel hk hix
  have hkk : ix = .pd (.val (.int kk k)) := by
    unfold asInt at hk; split at hk
    · cases hk; have := rel_val.1 hix; cases this; rfl
    · cases hk
  split at h
  · rename_i e hd
    simp only [Option.bind_eq_some_iff] at h
    obtain ⟨j, hj, h⟩ := h
    have run : ∀ (ad : Addr) (n c : Nat), 0 ≤ k → k < n → (Instr.indexAt t (.slice (some ad) n c) (.int kk k)).run P w = .ok (.pointer (some (ad.add (k.toNat * j.size)))) w := by
      intro ad n c h0 h1
      unfold Instr.indexAt
      rw [run_bind_ok (a := (kk, k)) (w' := w) rfl]
      simp only
      rw [run_bind_ok (run_underlying ht w), hd]
      simp only
      rw [run_bind_ok (a := (some ad, n, e)) (w' := w) rfl]
      simp only
      rw [run_bind_ok (run_underlying ht w), hd]
      simp only [Bool.and_false]
      rw [if_pos ⟨h0, h1⟩, run_bind_ok (run_sizeOf hj w)]; rfl
    split at h
    · rename_i rows
      split at h
      · rename_i h0
        simp only [Option.bind_eq_some_iff] at h
        obtain ⟨row, hrow, h⟩ := h
        split at h
        · rename_i hlen
          cases h
          have hlt : k.toNat < rows.length := (List.getElem?_eq_some_iff.1 hrow).1
          simp only [ARel, VRel] at hx
          obtain ⟨a, cap, rfl, _, _, hx⟩ := hx
          rcases hx with hx | ⟨b, off, sz, rfl, hI, hr⟩
          · subst hx; simp at hrow
          · obtain ⟨hl, hv⟩ := VRows.get hr hrow
            refine ⟨_, run _ _ _ h0 (by omega), ?_, by simp only [AV.ok]⟩
            simp only [ARel, VRel]
            refine ⟨b, off + k.toNat * sz, ?_, hI, hv⟩
            rw [addr_add, ← hlen, hl]; simp only [Nat.add_zero]
        · cases h
      · cases h
    · rename_i r sz off len
      split at h
      · rename_i hc
        cases h
        obtain ⟨h0, h1, h2⟩ := hc
        simp only [ARel] at hx
        obtain ⟨a, cap, rfl, _, hn, _, hx⟩ := hx
        cases ha : a with
        | none => have := hn ha; omega
        | some ad =>
          refine ⟨_, run ad _ _ h0 (by omega), ?_, by simpa only [AV.ok] using hok⟩
          simp only [ARel]
          refine ⟨_, rfl, fun b o ct sz' hp => ?_⟩
          obtain ⟨e1, e2, e3, _, e4⟩ := hx b o ct sz' hp
          have := e4 (by omega)
          rw [ha] at this; cases this
          rw [addr_add, ← h2, e1, Nat.add_mul]; simp only [Nat.add_zero, Nat.add_assoc]
      · cases h
    · cases h
  · rename_i n e hd
    simp only [Option.bind_eq_some_iff] at h
    obtain ⟨j, hj, h⟩ := h
    split at h
    · rename_i hb
      have run : ∀ (ad : Addr), (Instr.indexAt t (.pointer (some ad)) (.int kk k)).run P w = .ok (.pointer (some (ad.add (k.toNat * j.size)))) w := by
        intro ad
        unfold Instr.indexAt
        rw [run_bind_ok (a := (kk, k)) (w' := w) rfl]
        simp only
        rw [run_bind_ok (run_underlying ht w), hd]
        simp only [Instr.sureAddr]
        rw [run_bind_ok (a := ad) (w' := w) rfl, run_bind_ok (a := (some ad, n, e)) (w' := w) rfl]
        simp only
        rw [run_bind_ok (run_underlying ht w), hd]
        rw [if_pos hb, run_bind_ok (run_sizeOf hj w)]; rfl
      split at h
      · cases h
        simp only [ARel] at hx; obtain ⟨ad, rfl, hx⟩ := hx
        refine ⟨_, run ad, ?_, by simpa only [AV.ok] using hok⟩
        simp only [ARel]
        refine ⟨_, rfl, fun b o ct sz hr => ?_⟩
        rw [hx b o ct sz hr, addr_add]; simp only [Nat.add_assoc]
      · cases h
        simp only [ARel] at hx; obtain ⟨ad, rfl, hx⟩ := hx
        refine ⟨_, run ad, ?_, by simpa only [AV.ok] using hok⟩
        simp only [ARel]
        refine ⟨_, rfl, fun b o ct sz hr => ?_⟩
        rw [hx b o ct sz hr, addr_add]; simp only [Nat.add_assoc]
      · cases h
        simp only [ARel, VRel] at hx; obtain ⟨b, o, rfl, hI, hv⟩ := hx
        refine ⟨_, run _, ?_, by simp only [AV.ok]⟩
        simp only [ARel, VRel]
        exact ⟨b, o, by rw [addr_add]; simp only [Nat.add_assoc], hI, hv⟩
      · cases h
    · cases h
  · cases h
end
end Go.Abs

/- More operations that ask nothing of the blocks: slices, strings, numbers. -/
namespace Go.Abs
open Go.RowKit

section
variable {P : Program} {I : Nat → Prop} {w : World} {ρ : Ref → Pl} {D : Ref → Prop}

theorem fieldA_run {t : TypeId} {x : AV} {f : Nat} {v : AV} {x' : Value} (h : fieldA P t x f = some v) (hx : ARel I w ρ x x') (hok : x.ok D) :
    Good P I w ρ D (Instr.field t x' f) v := by
  simp only [fieldA, Option.bind_eq_some_iff] at h
  obtain ⟨i, ht, h⟩ := h
  split at h
  case h_2 => cases h
  rename_i fs hd
  simp only [Option.bind_eq_some_iff] at h
  obtain ⟨fd, hf, h⟩ := h
  have key : ∀ (cs : List AV) (xs : Array Value), partA P fd.type cs fd.offset = some v → Cellish xs.toList → ARels I w ρ cs xs.toList → AV.oks D cs → Good P I w ρ D (Instr.field t (.agg xs) f) v := by
    intro cs xs hp hce hc ho
    obtain ⟨y, hr, hy, hyo⟩ := partA_run hp hce hc ho
    refine ⟨y, ?_, hy, hyo⟩
    unfold Instr.field
    rw [run_bind_ok (run_underlying ht w), hd]
    simp only [hf, asAgg]
    rw [run_bind_ok (a := xs) (w' := w) rfl]
    exact hr
  split at h
  · simp only [ARel] at hx; obtain ⟨vs, rfl, hce, hx⟩ := hx
    exact key _ _ h hce hx (by simpa only [AV.ok] using hok)
  · simp only [ARel, VRel] at hx; obtain ⟨vs, rfl, hce, hx⟩ := hx
    exact key _ _ h hce (ARels.pd.2 hx) (AV.oks_pd _)
  · cases h

theorem indexA_run {t : TypeId} {x ix : AV} {v : AV} {x' ix' : Value} (h : indexA P t x ix = some v) (hx : ARel I w ρ x x') (hix : ARel I w ρ ix ix') (hok : x.ok D) :
    Good P I w ρ D (Instr.index t x' ix') v := by
  simp only [indexA, Option.bind_eq_some_iff] at h
  obtain ⟨i, ht, k, hk, h⟩ := h
  obtain ⟨kk, rfl⟩ := asInt_rel hk hix
  have hkk : ix = .pd (.val (.int kk k)) := by
    unfold asInt at hk; split at hk
    · cases hk; have := rel_val.1 hix; cases this; rfl
    · cases hk
  have key : ∀ (n e : Nat) (cs : List AV) (xs : Array Value), i.desc = .array n e → (if 0 ≤ k ∧ k < (n : Int) then (ti P e).bind fun j => partA P e cs (k.toNat * j.size) else none) = some v →
      Cellish xs.toList → ARels I w ρ cs xs.toList → AV.oks D cs → Good P I w ρ D (Instr.index t (.agg xs) (.int kk k)) v := by
    intro n e cs xs hd hp hce hc ho
    split at hp
    · rename_i hb
      simp only [Option.bind_eq_some_iff] at hp
      obtain ⟨j, hj, hp⟩ := hp
      obtain ⟨y, hr, hy, hyo⟩ := partA_run hp hce hc ho
      refine ⟨y, ?_, hy, hyo⟩
      unfold Instr.index
      rw [run_bind_ok (a := (kk, k)) (w' := w) rfl]
      simp only
      rw [run_bind_ok (run_underlying ht w), hd]
      simp only
      rw [if_pos hb, run_bind_ok (run_sizeOf hj w)]
      exact hr
    · cases hp
  split at h
  · rename_i n e cs hd
    simp only [ARel] at hx; obtain ⟨vs, rfl, hce, hx⟩ := hx
    exact key _ _ _ _ hd h hce hx (by simpa only [AV.ok] using hok)
  · rename_i n e cs hd
    simp only [ARel, VRel] at hx; obtain ⟨vs, rfl, hce, hx⟩ := hx
    exact key _ _ _ _ hd h hce (ARels.pd.2 hx) (AV.oks_pd _)
  · rename_i s hd
    have hx := rel_val.1 hx; subst hx
    split at h
    · rename_i hb
      simp only [Option.map_eq_some_iff] at h
      obtain ⟨b, hb2, rfl⟩ := h
      refine good_val ?_
      unfold Instr.index
      rw [run_bind_ok (a := (kk, k)) (w' := w) rfl]
      simp only
      rw [run_bind_ok (run_underlying ht w), hd]
      simp only [if_pos hb.1, hb2]; rfl
    · cases h
  · cases h

theorem run_sliceBound_ok {k : IntKind} {n : Int} {y : Nat} {code : BoundsCode} (h0 : 0 ≤ n) (h1 : n ≤ y) : (Instr.sliceBound (.int k n) y code).run P w = .ok n.toNat w := by
  unfold Instr.sliceBound
  rw [run_bind_ok (a := (k, n)) (w' := w) rfl]
  simp only
  rw [if_pos ⟨h0, h1⟩]; rfl

/-- The bounds of a slice expression. -/
theorem boundsA_run {isSlice : Bool} {len cap : Nat} {lo hi : Option AV} {lo' hi' : Option Value} {l h : Nat} (hb : boundsA len lo hi = some (l, h)) (hc : len ≤ cap)
    (hlo : ∀ a, lo = some a → ∃ b, lo' = some b ∧ ARel I w ρ a b) (hhi : ∀ a, hi = some a → ∃ b, hi' = some b ∧ ARel I w ρ a b)
    (nlo : lo = none → lo' = none) (nhi : hi = none → hi' = none) :
    l ≤ h ∧ h ≤ len ∧ (Instr.sliceBounds isSlice len cap lo' hi' none).run P w = .ok (l, h, cap) w := by
  simp only [boundsA, Option.bind_eq_some_iff] at hb
  obtain ⟨H, hH, L, hL, hb⟩ := hb
  split at hb
  case isFalse => cases hb
  rename_i hbd
  cases hb
  obtain ⟨h0, h1, h2⟩ := hbd
  refine ⟨by omega, by omega, ?_⟩
  have hcase : (hi' = none ∧ H.toNat = len) ∨ ∃ kk, hi' = some (.int kk H) := by
    cases hi with
    | none => simp at hH; subst hH; exact .inl ⟨nhi rfl, by simp⟩
    | some a => obtain ⟨b, rfl, hab⟩ := hhi a rfl; obtain ⟨kk, rfl⟩ := asInt_rel hH hab; exact .inr ⟨kk, rfl⟩
  have lcase : (lo' = none ∧ L.toNat = 0) ∨ ∃ kk, lo' = some (.int kk L) := by
    cases lo with
    | none => simp at hL; subst hL; exact .inl ⟨nlo rfl, by simp⟩
    | some a => obtain ⟨b, rfl, hab⟩ := hlo a rfl; obtain ⟨kk, rfl⟩ := asInt_rel hL hab; exact .inr ⟨kk, rfl⟩
  unfold Instr.sliceBounds
  simp only
  rw [run_bind_ok (a := cap) (w' := w) rfl]
  rcases hcase with ⟨rfl, eh⟩ | ⟨kh, rfl⟩
  · simp only
    rw [run_bind_ok (a := len) (w' := w) rfl]
    rcases lcase with ⟨rfl, el⟩ | ⟨kl, rfl⟩
    · simp only
      rw [run_bind_ok (a := 0) (w' := w) rfl, eh, el]; rfl
    · simp only
      rw [run_bind_ok (run_sliceBound_ok (by omega) (by omega)), eh]; rfl
  · simp only
    rw [run_bind_ok (run_sliceBound_ok (by omega) (by omega))]
    rcases lcase with ⟨rfl, el⟩ | ⟨kl, rfl⟩
    · simp only
      rw [run_bind_ok (a := 0) (w' := w) rfl, el]; rfl
    · simp only
      rw [run_bind_ok (run_sliceBound_ok (by omega) (by omega))]; rfl

theorem sliceA_run {t : TypeId} {x : AV} {lo hi : Option AV} {v : AV} {x' : Value} {lo' hi' : Option Value} (h : sliceA P t x lo hi = some v) (hx : ARel I w ρ x x') (hok : x.ok D)
    (hlo : ∀ a, lo = some a → ∃ b, lo' = some b ∧ ARel I w ρ a b) (hhi : ∀ a, hi = some a → ∃ b, hi' = some b ∧ ARel I w ρ a b)
    (nlo : lo = none → lo' = none) (nhi : hi = none → hi' = none) : Good P I w ρ D (Instr.sliceAt t x' lo' hi' none) v := by
  simp only [sliceA, Option.bind_eq_some_iff] at h
  obtain ⟨i, ht, h⟩ := h
  have at_slice : ∀ x', (∀ n e, i.desc ≠ .array n e) → (Instr.sliceAt t x' lo' hi' none).run P w = (Instr.slice t x' lo' hi' none).run P w := by
    intro x' hd
    unfold Instr.sliceAt
    rw [run_bind_ok (run_underlying ht w)]
    split
    · rename_i n e hd'; exact absurd hd' (hd n e)
    · rfl
  have sl_run : ∀ (e : Nat) (j : TI) (a : Option Addr) (len cap l h : Nat), i.desc = .slice e → ti P e = some j → boundsA len lo hi = some (l, h) → len ≤ cap →
      (Instr.sliceAt t (.slice a len cap) lo' hi' none).run P w = .ok (.slice (if cap = l then a else a.map (·.add (l * j.size))) (h - l) (cap - l)) w := by
    intro e j a len cap l h hd hj hb hc
    rw [at_slice _ (by rw [hd]; intros; simp)]
    unfold Instr.slice
    rw [run_bind_ok (run_underlying ht w), hd]
    simp only
    rw [run_bind_ok (boundsA_run hb hc hlo hhi nlo nhi).2.2]
    simp only
    rw [run_bind_ok (run_sizeOf hj w)]; rfl
  split at h
  · rename_i s hd
    have hx := rel_val.1 hx; subst hx
    simp only [Option.map_eq_some_iff] at h
    obtain ⟨⟨l, h'⟩, hb, rfl⟩ := h
    refine good_val ?_
    rw [at_slice _ (by rw [hd]; intros; simp)]
    unfold Instr.slice
    rw [run_bind_ok (run_underlying ht w), hd]
    simp only [Option.isSome_none, Bool.false_eq_true, if_false]
    rw [run_bind_ok (boundsA_run hb (Nat.le_refl _) hlo hhi nlo nhi).2.2]
    rfl
  · rename_i e rows hd
    simp only [Option.bind_eq_some_iff] at h
    obtain ⟨j, hj, h⟩ := h
    split at h
    case isFalse => cases h
    rename_i hall
    simp only [Option.map_eq_some_iff] at h
    obtain ⟨⟨l, h'⟩, hb, rfl⟩ := h
    simp only [ARel, VRel] at hx
    obtain ⟨a, cap, rfl, h1, h2, hx⟩ := hx
    obtain ⟨b1, b2, _⟩ := boundsA_run (P := P) (isSlice := true) hb h1 hlo hhi nlo nhi
    refine ⟨_, sl_run e j a _ cap l h' hd hj hb h1, ?_, by simp only [AV.ok]⟩
    simp only [ARel, VRel]
    have hlen : ((rows.drop l).take (h' - l)).length = h' - l := by simp; omega
    refine ⟨_, cap - l, by rw [hlen], by rw [hlen]; omega, by omega, ?_⟩
    by_cases hz : h' - l = 0
    · left; rw [hz]; simp
    · right
      rcases hx with hx | ⟨b, off, sz, rfl, hI, hr⟩
      · subst hx; simp at b2; omega
      · have hsz : sz = j.size := by
          cases rows with
          | nil => simp at b2; omega
          | cons r rs =>
            simp only [VRows] at hr
            have := List.all_eq_true.1 hall r (by simp)
            simp at this; omega
        refine ⟨b, off + l * sz, sz, ?_, hI, (hr.drop l).take _⟩
        rw [if_neg (by omega), hsz]; simp [addr_add]
  · rename_i e hd
    simp only [Option.bind_eq_some_iff, Option.map_eq_some_iff] at h
    obtain ⟨j, hj, ⟨l, h'⟩, hb, rfl⟩ := h
    simp only [ARel] at hx; subst hx
    obtain ⟨b1, b2, _⟩ := boundsA_run (P := P) (isSlice := true) hb (Nat.le_refl 0) hlo hhi nlo nhi
    refine ⟨_, sl_run e j none 0 0 l h' hd hj hb (Nat.le_refl _), ?_, by simp only [AV.ok]⟩
    simp only [ARel]
    obtain rfl : l = 0 := by omega
    obtain rfl : h' = 0 := by omega
    rfl
  · rename_i e r sz off len hd
    simp only [Option.bind_eq_some_iff] at h
    obtain ⟨j, hj, h⟩ := h
    split at h
    case isFalse => cases h
    rename_i hsz
    simp only [Option.map_eq_some_iff] at h
    obtain ⟨⟨l, h'⟩, hb, rfl⟩ := h
    simp only [ARel] at hx
    obtain ⟨a, cap, rfl, hlc, hn, hnil, hx⟩ := hx
    obtain ⟨b1, b2, _⟩ := boundsA_run (P := P) (isSlice := true) hb hlc hlo hhi nlo nhi
    refine ⟨_, sl_run e j a _ cap l h' hd hj hb hlc, ?_, by simpa only [AV.ok] using hok⟩
    simp only [ARel]
    refine ⟨_, cap - l, rfl, by omega, fun hc => ?_, fun hr => ?_, fun b o ct sz' hr => ?_⟩
    · have : a = none := by
        revert hc; split
        · exact id
        · intro hc; simpa using hc
      have := hn this; omega
    · obtain ⟨rfl, rfl, rfl, rfl⟩ := hnil hr
      obtain rfl : l = 0 := by omega
      exact ⟨by simp, by omega, by omega, by omega⟩
    · obtain ⟨e1, e2, e3, e4, e5⟩ := hx b o ct sz' hr
      refine ⟨e1, by omega, by omega, ?_, fun hne => ?_⟩
      · split
        · exact e4
        · simpa using e4
      · rw [if_neg (by omega), e5 (by omega), ← hsz]; simp [addr_add, Nat.add_mul, Nat.add_assoc]
  · cases h
end
end Go.Abs

/- Operators, lengths, new slices. -/
namespace Go.Abs
open Go.RowKit

section
variable {P : Program} {I : Nat → Prop} {w : World} {ρ : Ref → Pl} {D : Ref → Prop}

theorem nilP_rel {x : AV} {b : Bool} {x' : Value} (h : nilP x = some b) (hx : ARel I w ρ x x') : (b = true ∧ x' = .pointer none) ∨ (b = false ∧ ∃ ad, x' = .pointer (some ad)) := by
  unfold nilP at h
  split at h
  · cases h; exact .inl ⟨rfl, rel_val.1 hx⟩
  · cases h; simp only [ARel, VRel] at hx; obtain ⟨b, o, e, _⟩ := hx; exact .inr ⟨rfl, _, e⟩
  · cases h; simp only [ARel] at hx; obtain ⟨ad, e, _⟩ := hx; exact .inr ⟨rfl, _, e⟩
  · cases h; simp only [ARel] at hx; obtain ⟨ad, e, _⟩ := hx; exact .inr ⟨rfl, _, e⟩
  · cases h

theorem intV_run {op : BinOp} {k : IntKind} {a b : Int} {v : Value} (h : intV op k a b = some v) (hs : isShift op = false) (t : TypeId) :
    (binOp op t (.int k a) (.int k b)).run P w = .ok v w := by
  cases op <;> simp only [intV] at h <;> first | (cases h; done) | skip
  all_goals first | (cases hs; done) | skip
  case quo => split at h <;> cases h; rename_i hb; simp [binOp, Op.intDiv, hb]
  case rem => split at h <;> cases h; rename_i hb; simp [binOp, Op.intDiv, hb]
  all_goals (cases h; simp [binOp, Op.intArith, Op.intBits, Op.intCmp])

theorem shiftV_run {op : BinOp} {k k' : IntKind} {a b : Int} {v : Value} (h : shiftV op k a b = some v) (t : TypeId) :
    (binOp op t (.int k a) (.int k' b)).run P w = .ok v w := by
  unfold shiftV at h
  split at h
  · cases h
  · rename_i hb
    cases op <;> simp only at h <;> cases h <;> simp [binOp, Op.shift, hb]

theorem strV_run {op : BinOp} {a b : ByteArray} {v : Value} (h : strV op a b = some v) (t : TypeId) :
    (binOp op t (.string a) (.string b)).run P w = .ok v w := by
  cases op <;> simp only [strV] at h <;> first | (cases h; done) | skip
  case add =>
    split at h
    · cases h
      rename_i hsz
      simp only [binOp, Op.stringOp]
      rw [if_neg]
      · rfl
      · simp only [IntKind.max_i64]; omega
    · cases h
  all_goals (cases h; simp [binOp, Op.stringOp])

theorem nilS_rel {x : AV} {b : Bool} {x' : Value} (h : nilS x = some b) (hx : ARel I w ρ x x') : ∃ ad l c, x' = .slice ad l c ∧ b = ad.isNone := by
  unfold nilS at h
  split at h
  · cases h; simp only [ARel] at hx; exact ⟨none, 0, 0, hx, rfl⟩
  · cases h; simp only [ARel, VRel] at hx
    obtain ⟨a, cap, e, _, _, k | ⟨b, off, sz, ha, _⟩⟩ := hx
    · cases k
    · subst ha; exact ⟨_, _, _, e, rfl⟩
  · cases h; simp only [ARel, VRel] at hx; exact ⟨_, _, _, hx, rfl⟩
  · cases h; simp only [ARel] at hx
    obtain ⟨a, cap, e, _, k, _⟩ := hx
    cases a with
    | none => have := k rfl; omega
    | some a => exact ⟨_, _, _, e, rfl⟩
  · cases h

theorem AV.ok_true : ∀ v : AV, v.ok (fun _ => True) := by
  intro v
  have key : (∀ v : AV, v.ok (fun _ => True)) ∧ ∀ vs : List AV, AV.oks (fun _ => True) vs := by
    refine ⟨fun v => ?_, fun vs => ?_⟩
    · exact AV.rec (motive_1 := fun v => v.ok (fun _ => True)) (motive_2 := fun vs => AV.oks (fun _ => True) vs)
        (by simp only [AV.ok]) (fun _ => by simp only [AV.ok]) (by simp only [AV.ok]) (fun _ h => by simpa only [AV.ok] using h) (fun _ h => by simpa only [AV.ok] using h)
        (fun _ _ => by simp only [AV.ok]) (fun _ _ _ => by simp only [AV.ok]) (fun _ _ _ _ => by simp only [AV.ok]) (fun _ _ _ h1 h2 => by simp only [AV.ok]; exact ⟨h1, h2⟩) (fun _ _ h => by simpa only [AV.ok] using h)
        (by simp only [AV.oks]) (fun _ _ h1 h2 => by simp only [AV.oks]; exact ⟨h1, h2⟩) v
    · exact AV.rec_1 (motive_1 := fun v => v.ok (fun _ => True)) (motive_2 := fun vs => AV.oks (fun _ => True) vs)
        (by simp only [AV.ok]) (fun _ => by simp only [AV.ok]) (by simp only [AV.ok]) (fun _ h => by simpa only [AV.ok] using h) (fun _ h => by simpa only [AV.ok] using h)
        (fun _ _ => by simp only [AV.ok]) (fun _ _ _ => by simp only [AV.ok]) (fun _ _ _ _ => by simp only [AV.ok]) (fun _ _ _ h1 h2 => by simp only [AV.ok]; exact ⟨h1, h2⟩) (fun _ _ h => by simpa only [AV.ok] using h)
        (by simp only [AV.oks]) (fun _ _ h1 h2 => by simp only [AV.oks]; exact ⟨h1, h2⟩) vs
  exact key.1 v
theorem AV.oks_true (vs : List AV) : AV.oks (fun _ => True) vs := AV.oks_iff.2 fun v _ => AV.ok_true v

theorem aggA_rel {x : AV} {cs : List AV} {X : Value} (h : aggA x = some cs) (hx : ARel I w ρ x X) : ∃ vs, X = .agg vs ∧ Cellish vs.toList ∧ ARels I w ρ cs vs.toList := by
  unfold aggA at h
  split at h
  · cases h; simpa only [ARel] using hx
  · cases h
    simp only [ARel, VRel] at hx
    obtain ⟨vs, rfl, hc, hv⟩ := hx
    exact ⟨vs, rfl, hc, ARels.pd.2 hv⟩
  · cases h

theorem eqFs_run {E : TypeId → AV → AV → Option Bool} {d : Nat}
    (hE : ∀ t x y b X Y, E t x y = some b → ARel I w ρ x X → ARel I w ρ y Y → (Op.equalIn d t X Y).run P w = .ok b w)
    {xs ys : List AV} {vs us : Array Value} (h1 : Cellish vs.toList) (h2 : ARels I w ρ xs vs.toList) (h3 : Cellish us.toList) (h4 : ARels I w ρ ys us.toList) :
    ∀ (fs : List Field) (b : Bool), eqFs P E xs ys fs = some b → (Op.eqFields d vs us fs).run P w = .ok b w
  | [], b, h => by simp only [eqFs, Option.some.injEq] at h; subst h; rfl
  | f :: fs, b, h => by
    simp only [eqFs] at h
    split at h
    · cases h
    rename_i hn
    simp only [Option.bind_eq_some_iff] at h
    obtain ⟨a, ha, c, hc, r, hr, q, hq, h⟩ := h
    cases h
    obtain ⟨A, a1, a2, _⟩ := partA_run (D := fun _ => True) ha h1 h2 (AV.oks_true _)
    obtain ⟨B, b1, b2, _⟩ := partA_run (D := fun _ => True) hc h3 h4 (AV.oks_true _)
    unfold Op.eqFields
    rw [if_pos (by simpa using hn), run_bind_ok a1, run_bind_ok b1, run_bind_ok (hE _ _ _ _ _ _ hr a2 b2)]
    cases r with
    | false => simp
    | true => simp only [Bool.not_true, Bool.false_eq_true, if_false, Bool.true_and]; exact eqFs_run hE h1 h2 h3 h4 fs q hq

theorem cmpA_run {i : TypeDesc} {t : TypeId} {x y : AV} {b : Bool} {X Y : Value} (d : Nat) (hi : P.underlying t = some i) (hk : cmpKind i x = true) (h : cmpA x y = some b) (hx : ARel I w ρ x X) (hy : ARel I w ρ y Y) :
    (Op.equalIn (d + 1) t X Y).run P w = .ok b w := by
  unfold cmpA at h
  split at h
  · split at h
    · rename_i e
      cases h
      have hx := rel_val.1 hx; have hy := rel_val.1 hy; subst hx; subst hy; subst e
      cases i <;> simp only [cmpKind, Bool.false_eq_true] at hk
      exact run_equalIn_int w d t _ _ _ _ hi
    · cases h
  · cases h
    have hx := rel_val.1 hx; have hy := rel_val.1 hy; subst hx; subst hy
    cases i <;> simp only [cmpKind, Bool.false_eq_true] at hk
    exact run_equalIn_string w d t _ _ hi
  · cases h
    have hx := rel_val.1 hx; have hy := rel_val.1 hy; subst hx; subst hy
    cases i <;> simp only [cmpKind, Bool.false_eq_true] at hk
    exact run_equalIn_bool w d t _ _ hi
  · cases h

theorem eqA_run : ∀ (d e : Nat) (t : TypeId) (x y : AV) (b : Bool) (X Y : Value), eqA P d t x y = some b → ARel I w ρ x X → ARel I w ρ y Y → (Op.equalIn (d + e) t X Y).run P w = .ok b w
  | 0, _, _, _, _, _, _, _, h, _, _ => by cases h
  | d + 1, e, t, x, y, b, X, Y, h, hx, hy => by
    simp only [eqA, Option.bind_eq_some_iff] at h
    obtain ⟨i, ht, h⟩ := h
    have hu := (ti_spec ht).1
    rw [show d + 1 + e = d + e + 1 by omega]
    split at h
    · rename_i fs hd
      split at h
      · cases h
      rename_i hs
      simp only [Option.bind_eq_some_iff] at h
      obtain ⟨xs, hxs, ys, hys, h⟩ := h
      obtain ⟨vs, rfl, v1, v2⟩ := aggA_rel hxs hx
      obtain ⟨us, rfl, u1, u2⟩ := aggA_rel hys hy
      have hf : P.underlying t = some (.struct (P.fieldsOf t)) := by
        unfold Program.fieldsOf; rw [hu, hd]
      have hf2 : (P.fieldsOf t) = fs := by unfold Program.fieldsOf; rw [hu, hd]
      rw [run_equalIn_struct w (d + e) t vs us hf (by simpa using hs), hf2]
      exact eqFs_run (fun t x y b X Y h h1 h2 => eqA_run d e t x y b X Y h h1 h2) v1 v2 u1 u2 _ _ h
    · split at h
      · rename_i hk
        exact cmpA_run (d + e) hu hk h hx hy
      · cases h

theorem binV_run {op : BinOp} {t : TypeId} {x y : AV} {v : Value} {x' y' : Value} (xo yo : Operand) (h : binV P op t x y = some v) (hx : ARel I w ρ x x') (hy : ARel I w ρ y y') :
    (do eqGuard op t xo yo x' y'; binOp op t x' y' : Sem Value).run P w = .ok v w := by
  unfold binV at h
  split at h
  · have hx := rel_val.1 hx; have hy := rel_val.1 hy; subst hx; subst hy
    rw [eqGuard_at_int, run_bind_ok (a := ()) (w' := w) rfl]
    split at h
    · exact shiftV_run h t
    · rename_i hs
      split at h
      · subst_vars; exact intV_run h (by simpa using hs) t
      · cases h
  · have hx := rel_val.1 hx; have hy := rel_val.1 hy; subst hx; subst hy
    rw [eqGuard_at_string, run_bind_ok (a := ()) (w' := w) rfl]
    exact strV_run h t
  · have hx := rel_val.1 hx; have hy := rel_val.1 hy; subst hx; subst hy
    rw [eqGuard_at_bool, run_bind_ok (a := ()) (w' := w) rfl]
    unfold descOf at h
    cases ht : ti P t with
    | none => simp [ht] at h
    | some i =>
      have hu := (ti_spec ht).1
      simp only [ht, Option.map_some] at h
      split at h
      · rename_i e; simp at e; cases h; rw [e] at hu; exact run_eql_bool w t _ _ hu
      · rename_i e; simp at e; cases h; rw [e] at hu; exact run_neq_bool w t _ _ hu
      · cases h
  · have hy := rel_val.1 hy; subst hy
    unfold descOf at h
    cases ht : ti P t with
    | none => simp [ht] at h
    | some i =>
      have hu := (ti_spec ht).1
      simp only [ht, Option.map_some] at h
      have key : ∀ (e : TypeId) (b : Bool), i.desc = .pointer e → nilP x = some b → (Op.equal t x' (.pointer none)).run P w = .ok b w ∧ ∃ ad, x' = .pointer ad := by
        intro e b hd hb
        rcases nilP_rel hb hx with ⟨rfl, rfl⟩ | ⟨rfl, ad, rfl⟩
        · refine ⟨?_, _, rfl⟩
          unfold Op.equal Op.maxDepth Op.equalIn
          rw [run_bind_ok (run_underlying ht w), hd]; rfl
        · refine ⟨?_, _, rfl⟩
          unfold Op.equal Op.maxDepth Op.equalIn
          rw [run_bind_ok (run_underlying ht w), hd]; rfl
      split at h
      · rename_i e b hd hb
        cases h
        obtain ⟨hr, ad, rfl⟩ := key e b (by simpa using hd) hb
        rw [eqGuard_at_pointer, run_bind_ok (a := ()) (w' := w) rfl]
        show Sem.run P (binOp .eql t (.pointer ad) (.pointer none)) w = _
        have : binOp .eql t (.pointer ad) (.pointer none) = (do pure (.bool (← Op.equal t (.pointer ad) (.pointer none))) : Sem Value) := by cases ad <;> rfl
        rw [this, run_bind_ok hr]; rfl
      · rename_i e b hd hb
        cases h
        obtain ⟨hr, ad, rfl⟩ := key e b (by simpa using hd) hb
        rw [eqGuard_at_pointer, run_bind_ok (a := ()) (w' := w) rfl]
        have : binOp .neq t (.pointer ad) (.pointer none) = (do pure (.bool (!(← Op.equal t (.pointer ad) (.pointer none)))) : Sem Value) := by cases ad <;> rfl
        rw [this, run_bind_ok hr]; rfl
      · cases h
  · simp only [ARel] at hy; subst hy
    unfold descOf at h
    cases ht : ti P t with
    | none => simp [ht] at h
    | some i =>
      simp only [ht, Option.map_some] at h
      have key : ∀ (e : TypeId) (b : Bool), i.desc = .slice e → nilS x = some b → (Op.equal t x' (.slice none 0 0)).run P w = .ok b w ∧ ∃ ad l c, x' = .slice ad l c := by
        intro e b hd hb
        obtain ⟨ad, l, c, rfl, hn⟩ := nilS_rel hb hx
        refine ⟨?_, _, _, _, rfl⟩
        subst hn
        unfold Op.equal Op.maxDepth Op.equalIn
        rw [run_bind_ok (run_underlying ht w), hd]
        cases ad <;> rfl
      split at h
      · rename_i e b hd hb
        cases h
        obtain ⟨hr, ad, l, c, rfl⟩ := key e b (by simpa using hd) hb
        have h1 : eqGuard .eql t xo yo (.slice ad l c) (.slice none 0 0) = pure () := rfl
        rw [h1, run_bind_ok (a := ()) (w' := w) rfl]
        have : binOp .eql t (.slice ad l c) (.slice none 0 0) = (do pure (.bool (← Op.equal t (.slice ad l c) (.slice none 0 0))) : Sem Value) := rfl
        rw [this, run_bind_ok hr]; rfl
      · rename_i e b hd hb
        cases h
        obtain ⟨hr, ad, l, c, rfl⟩ := key e b (by simpa using hd) hb
        have h1 : eqGuard .neq t xo yo (.slice ad l c) (.slice none 0 0) = pure () := rfl
        rw [h1, run_bind_ok (a := ()) (w' := w) rfl]
        have : binOp .neq t (.slice ad l c) (.slice none 0 0) = (do pure (.bool (!(← Op.equal t (.slice ad l c) (.slice none 0 0)))) : Sem Value) := rfl
        rw [this, run_bind_ok hr]; rfl
      · cases h
  · split at h
    · cases h
    rename_i hg
    simp only [Option.bind_eq_some_iff] at h
    obtain ⟨xs, hxs, ys, hys, b, hb, h⟩ := h
    obtain ⟨vs, rfl, v1, v2⟩ := aggA_rel hxs hx
    obtain ⟨us, rfl, u1, u2⟩ := aggA_rel hys hy
    have hr := eqA_run 16 9984 t _ _ b _ _ hb hx hy
    rw [run_bind_ok (run_eqGuard_agg w op t xo yo vs us (by simpa using hg))]
    split at h
    · cases h; rw [run_eql_struct, hr]; rfl
    · cases h; rw [run_neq_struct, hr]; rfl
    · cases h

theorem unV_run {op : UnOp} {x : AV} {v : Value} {x' : Value} (h : unV op x = some v) (hx : ARel I w ρ x x') : (Op.unary op x').run P w = .ok v w := by
  unfold unV at h
  split at h
  · have hx := rel_val.1 hx; subst hx; cases h; rfl
  · have hx := rel_val.1 hx; subst hx
    simp only [intV] at h; cases h
    simp [Op.unary, Op.intBits]
  · have hx := rel_val.1 hx; subst hx; cases h; rfl
  · cases h

theorem convertA_run {src dst : TypeId} {x : AV} {v : AV} {x' : Value} (h : convertA P src dst x = some v) (hx : ARel I w ρ x x') : Good P I w ρ D (convert src dst x') v := by
  simp only [convertA, Option.bind_eq_some_iff] at h
  obtain ⟨i, hi, j, hj, h⟩ := h
  split at h
  · rename_i hd
    have hx := rel_val.1 hx; subst hx; cases h
    refine good_val ?_
    unfold convert
    rw [run_bind_ok (run_underlying hi w), run_bind_ok (run_underlying hj w), hd]
    rfl
  · rename_i hd
    have hx := rel_val.1 hx; subst hx; cases h
    refine good_val ?_
    unfold convert
    rw [run_bind_ok (run_underlying hi w), run_bind_ok (run_underlying hj w), hd]
    cases i.desc <;> rfl
  · cases h

theorem lenA_run {t ty : TypeId} {x : AV} {n : Int} {x' : Value} (h : lenA P t x = some n) (hx : ARel I w ρ x x') (ts : Array TypeId) (args : Array Value) (h0 : ts[0]? = some t) (h1 : args[0]? = some x') :
    (Builtin.len_ ts ty args).run P w = .ok (.int .i64 n) w := by
  simp only [lenA, Option.bind_eq_some_iff] at h
  obtain ⟨i, ht, h⟩ := h
  unfold Builtin.len_
  rw [h0, h1]
  simp only
  rw [run_bind_ok (run_underlying ht w)]
  split at h
  · rename_i hd; cases h; have hx := rel_val.1 hx; subst hx; rw [hd]; rfl
  · rename_i hd; cases h; simp only [ARel, VRel] at hx; obtain ⟨a, cap, rfl, _⟩ := hx; rw [hd]; rfl
  · rename_i hd; cases h; simp only [ARel] at hx; subst hx; rw [hd]; rfl
  · rename_i hd; cases h; simp only [ARel] at hx; obtain ⟨a, cap, rfl, _⟩ := hx; rw [hd]; rfl
  · rename_i hd; cases h; rw [hd]; rfl
  · cases h

theorem maxV_run {x y v : Value} (h : maxV x y = some v) (ts : Array TypeId) (t : TypeId) : (Builtin.max_ ts t #[x, y]).run P w = .ok v w := by
  unfold maxV at h; split at h
  · cases h; exact run_max_int2 w ts t _ _ _ _
  · cases h
theorem minV_run {x y v : Value} (h : minV x y = some v) (ts : Array TypeId) (t : TypeId) : (Builtin.min_ ts t #[x, y]).run P w = .ok v w := by
  unfold minV at h; split at h
  · cases h; exact run_min_int2 w ts t _ _ _ _
  · cases h
end
end Go.Abs

/- New slices. -/
namespace Go.Abs
open Go.RowKit

section
variable {P : Program} {I : Nat → Prop} {w : World} {ρ : Ref → Pl} {D : Ref → Prop}

theorem cellAt_cells {b off : Nat} {c : Array Value} {el : TypeId} {fz : Nat × Nat} (h : w.heap[b]? = some (.cells c el fz)) : World.cellAt w b off = c[off]? := by
  simp [World.cellAt, World.cell?, h]

theorem VAt.of_cells {b : Nat} {c : Array Value} {el : TypeId} {fz : Nat × Nat} (h : w.heap[b]? = some (.cells c el fz)) :
    ∀ (ds : List PD) (off : Nat), (∀ j d, ds[j]? = some d → ∃ x, c[off + j]? = some x ∧ cellish x = true ∧ VRel I w d x) → VAt I w b off ds
  | [], _, _ => by simp only [VAt]
  | d :: ds, off, hd => by
    simp only [VAt]
    refine ⟨?_, VAt.of_cells h ds (off + 1) fun j d' hj => ?_⟩
    · obtain ⟨x, hx, hce, hr⟩ := hd 0 d (by simp)
      exact ⟨x, by rw [cellAt_cells h]; simpa using hx, hce, hr⟩
    · obtain ⟨x, hx, hce, hr⟩ := hd (j + 1) d' (by simpa using hj)
      exact ⟨x, by rwa [show off + 1 + j = off + (j + 1) by omega], hce, hr⟩

theorem VRows.of_cells {b : Nat} {c : Array Value} {el : TypeId} {fz : Nat × Nat} (h : w.heap[b]? = some (.cells c el fz)) (sz : Nat) :
    ∀ (rows : List (List PD)) (off : Nat), (∀ i row, rows[i]? = some row → row.length = sz ∧ ∀ j d, row[j]? = some d → ∃ x, c[off + i * sz + j]? = some x ∧ cellish x = true ∧ VRel I w d x) →
      VRows I w b off sz rows
  | [], _, _ => by simp only [VRows]
  | r :: rs, off, hd => by
    simp only [VRows]
    obtain ⟨h1, h2⟩ := hd 0 r (by simp)
    refine ⟨h1, VAt.of_cells h r off fun j d hj => by simpa using h2 j d hj, VRows.of_cells h sz rs (off + sz) fun i row hi => ?_⟩
    obtain ⟨h3, h4⟩ := hd (i + 1) row (by simpa using hi)
    refine ⟨h3, fun j d hj => ?_⟩
    obtain ⟨x, hx, hce, hr⟩ := h4 j d hj
    exact ⟨x, by rwa [show off + sz + i * sz + j = off + (i + 1) * sz + j by rw [Nat.add_mul]; omega], hce, hr⟩

theorem ofValP_rel (v : Value) : VRel I w (ofValP v) v := by
  unfold ofValP
  split
  · simp only [VRel]; exact ⟨none, 0, rfl, Nat.le_refl _, Nat.zero_le _, .inl trivial⟩
  · simp only [VRel]

theorem wrap_small {n : Int} (h0 : 0 ≤ n) (h1 : n < 2 ^ 63) : IntKind.i64.wrap n = n := by
  unfold IntKind.wrap
  simp only [IntKind.bits, IntKind.signed]
  have : n % 2 ^ 64 = n := by omega
  simp only [this]
  rw [if_neg]
  simp; omega

theorem zeroCells_get {z : Value} {n i sz : Nat} (hz : z.cells.size = sz) (hi : i < n) :
    ((Array.range n).map (z.cells[· % z.cells.size]!))[i]? = some (z.cells[i % sz]!) := by
  simp [hi, hz]

theorem makeSliceA_run {t : TypeId} {len cap : Int} {k k' : IntKind} {sz : Nat} {rows : List (List PD)} (h : makeSliceA P t len cap = some (sz, rows)) :
    ∃ c e, (Instr.makeSlice t (.int k len) (.int k' cap)).run P w = .ok (.slice (some ⟨w.heap.size, 0, none⟩) len.toNat cap.toNat) { w with heap := w.heap.push (.cells c e) } ∧
      rows.length = cap.toNat ∧ len.toNat ≤ cap.toNat ∧ cap.toNat ≤ maxLen ∧ cap.toNat * sz ≤ c.size ∧
      (∀ i row, rows[i]? = some row → row.length = sz ∧ ∀ j d, row[j]? = some d → ∃ x, c[0 + i * sz + j]? = some x ∧ cellish x = true ∧ ∀ I w, VRel I w d x) := by
  simp only [makeSliceA, Option.bind_eq_some_iff] at h
  obtain ⟨i, ht, h⟩ := h
  split at h
  case h_2 => cases h
  rename_i e hd
  simp only [Option.bind_eq_some_iff] at h
  obtain ⟨j, hj, h⟩ := h
  split at h
  case isFalse => cases h
  rename_i hb
  cases h
  obtain ⟨h0, h1, h2, h3, hzc⟩ := hb
  obtain ⟨info, z, g1, g2, g3, g4, hrun⟩ := run_typeInfo hj
  obtain ⟨z', g5, hzr⟩ := run_zeroValue hj
  have hcap : cap ≤ 2 ^ 40 := by
    have h5 : cap * 1 ≤ cap * ((j.bytes : Int) + 1) := Int.mul_le_mul_of_nonneg_left (by omega) (by omega)
    rw [Int.mul_one] at h5
    exact Int.le_trans h5 h2
  have hcb : (j.bytes : Int) * cap ≤ 2 ^ 40 := by
    have h5 : cap * (j.bytes : Int) ≤ cap * ((j.bytes : Int) + 1) := Int.mul_le_mul_of_nonneg_left (by omega) (by omega)
    rw [Int.mul_comm]
    exact Int.le_trans h5 h2
  have hzs : z'.cells.size = j.size := by rw [← h3, ← g5]; simp
  have e1 := wrap_small (n := len) h0 (by omega)
  have e2 := wrap_small (n := cap) (by omega) (by omega)
  have hrunall : ∀ zc : Array Value, (cap.toNat * j.size = 0 ∧ zc = #[] ∨ cap.toNat * j.size ≠ 0 ∧ zc = z'.cells) →
      (Instr.makeSlice t (.int k len) (.int k' cap)).run P w = .ok (.slice (some ⟨w.heap.size, 0, none⟩) len.toNat cap.toNat)
        { w with heap := w.heap.push (.cells ((Array.range (cap.toNat * j.size)).map (zc[· % zc.size]!)) e) } := by
    intro zc hzc
    unfold Instr.makeSlice
    rw [run_bind_ok (run_underlying ht w), hd]
    simp only
    rw [run_bind_ok (a := len) (w' := w) rfl, run_bind_ok (a := cap) (w' := w) rfl, run_bind_ok (hrun w)]
    simp only [e1, e2, g4]
    rw [if_neg]
    · rw [run_bind_ok (run_askRoom P w _), run_bind_ok (run_sizeOf hj w)]
      rcases hzc with ⟨hn, rfl⟩ | ⟨hn, rfl⟩
      · rw [if_pos hn]; rfl
      · rw [if_neg hn, run_bind_ok (hzr w)]; rfl
    · simp only [Bool.or_eq_true, decide_eq_true_eq]
      have : ¬ ((j.bytes : Int) * cap > 2 ^ 48) := by omega
      omega
  by_cases hn : cap.toNat * j.size = 0
  · refine ⟨_, e, hrunall #[] (.inl ⟨hn, rfl⟩), by simp, by omega, by simp only [maxLen]; omega, by simp [hn], fun i row hi => ?_⟩
    have hi' := List.getElem?_eq_some_iff.1 hi
    obtain ⟨hlt, hi'⟩ := hi'
    simp at hlt hi'
    have hs0 : j.size = 0 := by rcases Nat.mul_eq_zero.1 hn with h | h <;> omega
    subst hi'
    refine ⟨by simp [zeroRow, h3], fun jj d hjd => ?_⟩
    have : zeroRow j = [] := by unfold zeroRow; rw [List.map_eq_nil_iff]; exact List.eq_nil_of_length_eq_zero (by omega)
    rw [this] at hjd; simp at hjd
  · refine ⟨_, e, hrunall z'.cells (.inr ⟨hn, rfl⟩), by simp, by omega, by simp only [maxLen]; omega, by simp, fun i row hi => ?_⟩
    obtain ⟨hlt, hi'⟩ := List.getElem?_eq_some_iff.1 hi
    simp at hlt hi'
    subst hi'
    refine ⟨by simp [zeroRow, h3], fun jj d hjd => ?_⟩
    have hjj : jj < j.size := by have := (List.getElem?_eq_some_iff.1 hjd).1; simp [zeroRow, h3] at this; exact this
    have hlt2 : 0 + i * j.size + jj < cap.toNat * j.size := by
      have : (i + 1) * j.size ≤ cap.toNat * j.size := Nat.mul_le_mul_right _ (by omega)
      rw [Nat.add_mul] at this; omega
    have hcel : cellish (z'.cells[(0 + i * j.size + jj) % j.size]!) = true := by
      have hlt3 : (0 + i * j.size + jj) % j.size < z'.cells.size := by rw [hzs]; exact Nat.mod_lt _ (by omega)
      rw [← g5] at hzc
      have := List.all_eq_true.1 hzc (z'.cells[(0 + i * j.size + jj) % j.size]!) (by simp only [hlt3, getElem!_pos]; simp)
      exact this
    refine ⟨_, zeroCells_get hzs hlt2, hcel, fun I w => ?_⟩
    have hm : (0 + i * j.size + jj) % j.size = jj := by rw [Nat.zero_add, Nat.mul_comm, Nat.mul_add_mod, Nat.mod_eq_of_lt hjj]
    rw [hm]
    unfold zeroRow at hjd
    rw [← g5, List.getElem?_map] at hjd
    have hjs : jj < z'.cells.size := by omega
    simp [hjs] at hjd
    subst hjd
    simp [hjs]
    exact ofValP_rel _
end
end Go.Abs

/- What a value reads as, in the world. -/
namespace Go.Abs
open Go.RowKit

section
variable {P : Program} {I I' : Nat → Prop} {w : World} {ρ : Ref → Pl} {D : Ref → Prop}

theorem ARels.of_mapM {f : AV → Option PD} (hf : ∀ v d x, f v = some d → ARel I w ρ v x → VRel I' w d x) :
    ∀ (vs : List AV) (ds : List PD) (xs : List Value), vs.mapM f = some ds → ARels I w ρ vs xs → VRels I' w ds xs
  | [], ds, xs, h, k => by simp at h; subst h; simpa only [VRels, ARels] using k
  | v :: vs, ds, xs, h, k => by
    rw [List.mapM_cons] at h
    simp only [Option.bind_eq_bind, Option.bind_eq_some_iff] at h
    obtain ⟨d, hd, ds', hds, h⟩ := h
    cases h
    simp only [ARels] at k; obtain ⟨x, xs', rfl, k1, k2⟩ := k
    simp only [VRels]; exact ⟨x, xs', rfl, hf v d x hd k1, ARels.of_mapM hf vs ds' xs' hds k2⟩

theorem VAt.of_rels {b : Nat} {c : Array Value} {el : TypeId} {fz : Nat × Nat} (h : w.heap[b]? = some (.cells c el fz)) (hce : Cellish c.toList) {ds : List PD} (hr : VRels I w ds c.toList) : VAt I w b 0 ds := by
  refine VAt.of_cells h ds 0 fun j d hj => ?_
  have : ∀ {ds : List PD} {xs : List Value} {j : Nat} {d : PD}, VRels I w ds xs → ds[j]? = some d → ∃ x, xs[j]? = some x ∧ VRel I w d x := by
    intro ds
    induction ds with
    | nil => intro xs j d _ h; simp at h
    | cons e es ih =>
      intro xs j d h hj
      simp only [VRels] at h; obtain ⟨x, xs', rfl, h1, h2⟩ := h
      cases j with
      | zero => simp at hj; subst hj; exact ⟨x, by simp, h1⟩
      | succ j => obtain ⟨y, hy, hr⟩ := ih h2 (by simpa using hj); exact ⟨y, by simpa using hy, hr⟩
  obtain ⟨x, hx, hd⟩ := this hr hj
  exact ⟨x, by simpa using hx, hce x (List.mem_of_getElem? hx), hd⟩

theorem mapM_length {α β : Type} {f : α → Option β} : ∀ {l : List α} {r : List β}, l.mapM f = some r → r.length = l.length
  | [], r, h => by simp at h; subst h; rfl
  | a :: l, r, h => by
    rw [List.mapM_cons] at h
    simp only [Option.bind_eq_bind, Option.bind_eq_some_iff] at h
    obtain ⟨d, hd, ds', hds, h⟩ := h
    cases h; simp [mapM_length hds]

theorem rows_view {sz off len : Nat} {b o ct : Nat} {rows rows' : List (List PD)} {a : Option Addr} {cap : Nat} (hI : ∀ b, I b → I' b) (hb : I' b) (hr : VRows I w b o sz rows) (hc : ct ≤ maxLen)
    (hw : window rows off len = some rows') (e1 : off + cap = ct) (e2 : len ≤ cap) (e3 : cap ≠ 0 → a = some ⟨b, o + off * sz, none⟩) : VRel I' w (.sl rows') (.slice a len cap) := by
  obtain ⟨hl, rfl⟩ := window_some hw
  have hlen : ((rows.drop off).take len).length = len := by simp; omega
  simp only [VRel]
  refine ⟨a, cap, by rw [hlen], by omega, by omega, ?_⟩
  by_cases hz : len = 0
  · left; simp [hz]
  · right
    exact ⟨b, o + off * sz, sz, e3 (by omega), hb, VRows.mono hI (fun _ _ => rfl) _ _ _ rfl _ ((hr.drop off).take len)⟩

theorem view_rel {live : Bool} {blk : Blk} (H : ∀ r B, blk r = some B → BRel I w ρ r B) (hI : ∀ b, I b → I' b)
    (hlive : live = true → ∀ r B b o ct sz, blk r = some B → B.owned = true → ρ r = .at b o ct sz → I' b) :
    ∀ (n : Nat) (v : AV) (d : PD) (x : Value), view live blk n v = some d → ARel I w ρ v x → VRel I' w d x
  | 0, v, d, x, h, _ => by simp [view] at h
  | n + 1, v, d, x, h, k => by
    have ih := view_rel H hI hlive n
    cases v with
    | und => simp [view] at h
    | pd d' => simp [view] at h; subst h; simp only [ARel] at k; exact VRel.mono hI (fun _ _ => rfl) _ _ k
    | nil => simp [view] at h; subst h; simp only [ARel] at k; subst k; simp only [VRel]; exact ⟨none, 0, rfl, Nat.le_refl _, Nat.zero_le _, .inl trivial⟩
    | agg cs =>
      simp only [view, Option.map_eq_some_iff] at h; obtain ⟨ds, hd, rfl⟩ := h
      simp only [ARel] at k; obtain ⟨vs, rfl, hce, k⟩ := k
      simp only [VRel]; exact ⟨vs, rfl, hce, ARels.of_mapM ih _ _ _ hd k⟩
    | tup cs =>
      simp only [view, Option.map_eq_some_iff] at h; obtain ⟨ds, hd, rfl⟩ := h
      simp only [ARel] at k; obtain ⟨vs, rfl, k⟩ := k
      simp only [VRel]; exact ⟨vs, rfl, ARels.of_mapM ih _ _ _ hd k⟩
    | ptr r off =>
      simp only [view] at h
      split at h
      · rename_i cs hb
        simp only [Option.map_eq_some_iff] at h; obtain ⟨ds, hd, rfl⟩ := h
        obtain ⟨b, ct, sz, c, el, fz, h1, h2, h3, h4, hce, h5⟩ := H r _ hb
        simp only [ARel] at k; obtain ⟨ad, rfl, k⟩ := k
        have k := k _ _ _ _ h1; subst k
        simp only [VRel]
        exact ⟨b, 0, rfl, hlive rfl r _ b _ _ _ hb rfl h1, VAt.of_rels h2 hce (ARels.of_mapM ih _ _ _ hd h5)⟩
      · cases h
    | eptr r row off =>
      simp only [view] at h
      simp only [ARel] at k; obtain ⟨ad, rfl, k⟩ := k
      split at h
      · rename_i sz rows hb
        simp only [Option.map_eq_some_iff] at h; obtain ⟨cs, hd, rfl⟩ := h
        rcases H r _ hb with ⟨h1, _⟩ | ⟨b, o, ct, h1, h2, h3, h4⟩
        · subst h1; simp at hd
        · have k := k _ _ _ _ h1; subst k
          obtain ⟨_, hv⟩ := VRows.get h3 hd
          simp only [VRel]
          exact ⟨b, o + row * sz, rfl, hI _ h2, VAt.mono hI (fun _ _ => rfl) _ _ rfl _ hv⟩
      · rename_i sz rows hb
        simp only [Option.map_eq_some_iff] at h; obtain ⟨cs, hd, rfl⟩ := h
        rcases H r _ hb with ⟨h1, _⟩ | ⟨b, o, ct, c, el, fz, h1, h2, h3, h4, h5, h6⟩
        · subst h1; simp at hd
        · have k := k _ _ _ _ h1; subst k
          obtain ⟨_, hv⟩ := VRows.get h5 hd
          simp only [VRel]
          exact ⟨b, o + row * sz, rfl, hlive rfl r _ b _ _ _ hb rfl h1, VAt.mono hI (fun _ _ => rfl) _ _ rfl _ hv⟩
      · cases h
    | sl r sz off len =>
      simp only [view] at h
      simp only [ARel] at k; obtain ⟨a, cap, rfl, hlc, hn, hnil, k⟩ := k
      split at h
      · rename_i sz' rows hb
        simp only [Option.map_eq_some_iff] at h; obtain ⟨rows', hw, rfl⟩ := h
        rcases H r _ hb with ⟨h1, h2⟩ | ⟨b, o, ct, h1, h2, h3, h4, h5⟩
        · obtain ⟨rfl, rfl, rfl, rfl⟩ := hnil h2
          subst h1
          obtain ⟨_, rfl⟩ := window_some hw
          simp only [VRel]; exact ⟨none, 0, by simp, by simp, by simp [maxLen], .inl (by simp)⟩
        · obtain ⟨e0, e1, e2, _, e3⟩ := k _ _ _ _ h1
          subst e0
          exact rows_view hI (hI _ h2) h3 h5 hw e1 e2 e3
      · rename_i sz' rows hb
        simp only [Option.map_eq_some_iff] at h; obtain ⟨rows', hw, rfl⟩ := h
        rcases H r _ hb with ⟨h1, h2⟩ | ⟨b, o, ct, c, el, fz, h1, h2, h3, h4, h5, h6, h7, h8⟩
        · obtain ⟨rfl, rfl, rfl, rfl⟩ := hnil h2
          subst h1
          obtain ⟨_, rfl⟩ := window_some hw
          simp only [VRel]; exact ⟨none, 0, by simp, by simp, by simp [maxLen], .inl (by simp)⟩
        · obtain ⟨e0, e1, e2, _, e3⟩ := k _ _ _ _ h1
          subst e0
          exact rows_view hI (hlive rfl r _ b _ _ _ hb rfl h1) h5 h7 hw e1 e2 e3
      · cases h
    | clo fn first captured =>
      simp only [view, Option.bind_eq_some_iff, Option.map_eq_some_iff] at h; obtain ⟨a, ha, c, hc, rfl⟩ := h
      simp only [ARel] at k; obtain ⟨vs, us, rfl, k1, k2⟩ := k
      simp only [VRel]; exact ⟨vs, us, rfl, ARels.of_mapM ih _ _ _ ha k1, ARels.of_mapM ih _ _ _ hc k2⟩
    | iface t v =>
      simp only [view, Option.map_eq_some_iff] at h; obtain ⟨d', hd, rfl⟩ := h
      simp only [ARel] at k; obtain ⟨u, rfl, k⟩ := k
      simp only [VRel]; exact ⟨u, rfl, ih _ _ _ hd k⟩

/-- One row of a new slice. -/
theorem rowOf_rel {blk : Blk} (H : HRel I ρ w blk) {sz : Nat} {v : AV} {row : List PD} {x : Value} (h : rowOf blk sz v = some row) (k : ARel I w ρ v x) :
    row.length = sz ∧ Cellish x.cells.toList ∧ VRels I w row x.cells.toList := by
  simp only [rowOf, Option.bind_eq_some_iff] at h
  obtain ⟨cs, hc, h⟩ := h
  split at h
  · rename_i hl
    exact ⟨by rw [mapM_length h, hl], (avCells_rel hc k).1, ARels.of_mapM (fun v d x hv hx => view_rel H.rel (fun _ h => h) (fun h => by cases h) 8 v d x hv hx) _ _ _ h (avCells_rel hc k).2⟩
  · cases h
end
end Go.Abs

/- A slice literal. -/
namespace Go.Abs
open Go.RowKit

section
variable {P : Program} {I I' : Nat → Prop} {w : World} {ρ : Ref → Pl} {D : Ref → Prop}

theorem fillSeq (sz : Nat) : ∀ (vs : List Value) (k : Nat) (cells : Array Value), (∀ v ∈ vs, v.cells.size = sz) → (k + vs.length) * sz ≤ cells.size →
    ∃ cs', Instr.fill (fun i => some (i * sz, sz)) cells ((List.range' k vs.length).zip vs) = some cs' ∧
      cs'.toList = cells.toList.take (k * sz) ++ vs.flatMap (fun v => v.cells.toList) ++ cells.toList.drop ((k + vs.length) * sz)
  | [], k, cells, _, _ => ⟨cells, by simp [Instr.fill], by simp⟩
  | v :: vs, k, cells, hv, hk => by
    have hvs := hv v (by simp)
    have hm : (k + 1) * sz ≤ (k + (v :: vs).length) * sz := Nat.mul_le_mul_right _ (by simp)
    have hkk : (k + 1) * sz = k * sz + sz := by rw [Nat.add_mul, Nat.one_mul]
    simp only [List.length_cons, List.range'_succ, List.zip_cons_cons, Instr.fill]
    rw [if_neg (by simp only [Bool.or_eq_true, decide_eq_true_eq]; omega)]
    have hf := foldl_set_splice cells (k * sz) v.cells.toList 0 (by simp; omega)
    have hf' : (v.cells.zipIdx.foldl (fun cs (x : Value × Nat) => cs.setIfInBounds (k * sz + x.2) x.1) cells).toList = cells.toList.take (k * sz) ++ v.cells.toList ++ cells.toList.drop (k * sz + sz) := by
      rw [← Array.foldl_toList, Array.toList_zipIdx]
      simp only [Nat.add_zero, Array.length_toList, hvs] at hf
      exact hf
    obtain ⟨cs', h1, h2⟩ := fillSeq sz vs (k + 1) (v.cells.zipIdx.foldl (fun cs (x : Value × Nat) => cs.setIfInBounds (k * sz + x.2) x.1) cells) (fun u hu => hv u (by simp [hu])) (by
      rw [← Array.length_toList, hf']
      simp only [List.length_append, List.length_take, List.length_drop, Array.length_toList, hvs]
      rw [List.length_cons] at hk
      rw [show k + 1 + vs.length = k + (vs.length + 1) by omega]
      omega)
    refine ⟨cs', h1, ?_⟩
    rw [h2, hf']
    have l1 : (cells.toList.take (k * sz)).length = k * sz := by simp; omega
    have l2 : v.cells.toList.length = sz := by simpa using hvs
    have t1 : ((cells.toList.take (k * sz) ++ v.cells.toList) ++ cells.toList.drop (k * sz + sz)).take ((k + 1) * sz) = cells.toList.take (k * sz) ++ v.cells.toList := by
      rw [List.take_append_of_le_length (by rw [List.length_append, l1, l2]; omega), List.take_of_length_le (by rw [List.length_append, l1, l2]; omega)]
    have t2 : ((cells.toList.take (k * sz) ++ v.cells.toList) ++ cells.toList.drop (k * sz + sz)).drop ((k + 1 + vs.length) * sz) = cells.toList.drop ((k + (vs.length + 1)) * sz) := by
      rw [List.drop_append, List.length_append, l1, l2, List.drop_eq_nil_of_le (by rw [List.length_append, l1, l2, Nat.add_mul, hkk]; omega), List.nil_append, List.drop_drop]
      congr 1
      rw [show k + (vs.length + 1) = k + 1 + vs.length by omega, Nat.add_mul (k + 1), hkk]; omega
    rw [t1, t2]
    simp [List.flatMap_cons, List.append_assoc]

theorem flat_get {sz : Nat} : ∀ {vs : List Value} {i j : Nat} {v x : Value}, (∀ v ∈ vs, v.cells.size = sz) → vs[i]? = some v → v.cells.toList[j]? = some x →
    (vs.flatMap (fun v => v.cells.toList))[i * sz + j]? = some x
  | [], i, j, v, x, _, h, _ => by simp at h
  | u :: vs, 0, j, v, x, hv, h, hx => by
    simp at h; subst h
    have : j < u.cells.toList.length := (List.getElem?_eq_some_iff.1 hx).1
    simp only [List.flatMap_cons, Nat.zero_mul, Nat.zero_add]
    rw [List.getElem?_append_left this]; exact hx
  | u :: vs, i + 1, j, v, x, hv, h, hx => by
    have hu := hv u (by simp)
    simp only [List.flatMap_cons]
    rw [List.getElem?_append_right (by rw [Array.length_toList, hu, Nat.add_mul]; omega)]
    rw [Array.length_toList, hu, show (i + 1) * sz + j - sz = i * sz + j by rw [Nat.add_mul]; omega]
    exact flat_get (fun v h => hv v (by simp [h])) (by simpa using h) hx

theorem flat_length {sz : Nat} : ∀ {vs : List Value}, (∀ v ∈ vs, v.cells.size = sz) → (vs.flatMap (fun v => v.cells.toList)).length = vs.length * sz
  | [], _ => by simp
  | u :: vs, hv => by
    simp only [List.flatMap_cons, List.length_append, Array.length_toList, hv u (by simp), flat_length (sz := sz) (vs := vs) (fun v h => hv v (by simp [h])), List.length_cons, Nat.add_mul]
    omega

theorem VRels.get : ∀ {ds : List PD} {xs : List Value} {j : Nat} {d : PD}, VRels I w ds xs → ds[j]? = some d → ∃ x, xs[j]? = some x ∧ VRel I w d x
  | [], xs, j, d, _, h => by simp at h
  | e :: es, xs, 0, d, h, hj => by
    simp only [VRels] at h; obtain ⟨x, xs', rfl, h1, h2⟩ := h
    simp at hj; subst hj; exact ⟨x, by simp, h1⟩
  | e :: es, xs, j + 1, d, h, hj => by
    simp only [VRels] at h; obtain ⟨x, xs', rfl, h1, h2⟩ := h
    obtain ⟨y, hy, hr⟩ := VRels.get h2 (by simpa using hj); exact ⟨y, by simpa using hy, hr⟩

theorem rows_of_parts {blk : Blk} (H : HRel I ρ w blk) {sz : Nat} : ∀ {vs : List AV} {rows : List (List PD)} {xs : List Value}, vs.mapM (rowOf blk sz) = some rows → ARels I w ρ vs xs →
    rows.length = xs.length ∧ (∀ x ∈ xs, x.cells.size = sz) ∧ ∀ (i : Nat) (row : List PD), rows[i]? = some row → row.length = sz ∧ ∃ x : Value, xs[i]? = some x ∧ Cellish x.cells.toList ∧ VRels I w row x.cells.toList
  | [], rows, xs, h, k => by
    simp at h; subst h; simp only [ARels] at k; subst k; simp
  | v :: vs, rows, xs, h, k => by
    rw [List.mapM_cons] at h
    simp only [Option.bind_eq_bind, Option.bind_eq_some_iff] at h
    obtain ⟨r, hr, rs, hrs, h⟩ := h
    cases h
    simp only [ARels] at k; obtain ⟨x, xs', rfl, k1, k2⟩ := k
    obtain ⟨i1, i2, i3⟩ := rows_of_parts H hrs k2
    obtain ⟨j1, jce, j2⟩ := rowOf_rel H hr k1
    refine ⟨by simp [i1], ?_, ?_⟩
    · intro y hy; simp at hy; rcases hy with rfl | hy
      · rw [← j1, ← j2.length]; simp
      · exact i2 y hy
    · intro i row hi
      cases i with
      | zero => simp at hi; subst hi; exact ⟨j1, x, by simp, jce, j2⟩
      | succ i => simpa using i3 i row (by simpa using hi)

theorem zip_parts {parts : List (Nat × Value)} {n : Nat} (h : parts.map (·.1) = List.range n) : parts = (List.range' 0 (parts.map (·.2)).length).zip (parts.map (·.2)) := by
  have hn : n = parts.length := by have := congrArg List.length h; simp at this; omega
  have e : List.range' 0 (parts.map (·.2)).length = parts.map (·.1) := by rw [h, List.range_eq_range', hn]; simp
  rw [e]
  generalize parts = l
  induction l with
  | nil => rfl
  | cons p l ih => obtain ⟨a, b⟩ := p; simp only [List.map_cons, List.zip_cons_cons]; rw [← ih]

theorem buildSliceA_run {t : TypeId} {len : Nat} {parts : List (Nat × AV)} {parts' : Array (Nat × Value)} {sz : Nat} {rows : List (List PD)}
    (hI : ∀ b, I b → b < w.heap.size) (h : buildSliceA P t len parts = some (sz, rows)) (h1 : parts.map (·.1) = parts'.toList.map (·.1)) (h2 : ARels I w ρ (parts.map (·.2)) (parts'.toList.map (·.2))) :
    ∃ c e, (Instr.buildSlice t len parts').run P w = .ok (.slice (some ⟨w.heap.size, 0, none⟩) len len) { w with heap := w.heap.push (.cells c e) } ∧
      rows.length = len ∧ len ≤ maxLen ∧ len * sz ≤ c.size ∧
      (∀ i row, rows[i]? = some row → row.length = sz ∧ ∀ j d, row[j]? = some d → ∃ x, c[0 + i * sz + j]? = some x ∧ cellish x = true ∧ VRel I w d x) := by
  simp only [buildSliceA, Option.bind_eq_some_iff] at h
  obtain ⟨i, ht, h⟩ := h
  split at h
  case h_2 => cases h
  rename_i e hd
  simp only [Option.bind_eq_some_iff] at h
  obtain ⟨j, hj, h⟩ := h
  split at h
  case isFalse => cases h
  rename_i hb
  obtain ⟨hp, hmax'⟩ := hb
  have hmax : len * j.size ≤ 2 ^ 24 := by rw [Nat.mul_add] at hmax'; omega
  have hmax2 : len ≤ 2 ^ 24 := by rw [Nat.mul_add] at hmax'; omega
  simp only [Option.map_eq_some_iff] at h
  obtain ⟨rows', hrows, h⟩ := h
  cases h
  have H : HRel I ρ w (fun _ => none) := ⟨hI, by simp, by simp, by simp⟩
  obtain ⟨r1, r2, r3⟩ := rows_of_parts H hrows h2
  have hlen : parts'.toList.length = len := by
    have := congrArg List.length (h1.symm.trans hp); simpa using this
  obtain ⟨z, g5, hzr⟩ := run_zeroValue hj
  have hzz : ∀ zc : Array Value, (len * j.size = 0 ∧ zc = #[] ∨ len * j.size ≠ 0 ∧ zc = z.cells) →
      ∃ c, (Instr.buildSlice t len parts').run P w = .ok (.slice (some ⟨w.heap.size, 0, none⟩) len len) { w with heap := w.heap.push (.cells c e) } ∧
        c.toList = (parts'.toList.map (·.2)).flatMap (fun v => v.cells.toList) := by
    intro zc hzc
    obtain ⟨cs', hfill, hcs⟩ := fillSeq j.size (parts'.toList.map (·.2)) 0 ((Array.range (len * j.size)).map (zc[· % zc.size]!)) r2 (by simp [hlen])
    rw [← zip_parts (h1.symm.trans hp)] at hfill
    refine ⟨cs', ?_, ?_⟩
    · unfold Instr.buildSlice
      rw [run_bind_ok (run_underlying ht w), hd]
      simp only
      rw [run_bind_ok (run_sizeOf hj w), if_neg (by omega)]
      rcases hzc with ⟨hn, rfl⟩ | ⟨hn, rfl⟩
      · rw [if_pos hn]
        rw [run_bind_ok (a := (#[] : Array Value)) (w' := w) rfl, hfill]
        rfl
      · rw [if_neg hn]
        rw [run_bind_ok (hzr w), run_bind_ok (a := z.cells) (w' := w) rfl, hfill]
        rfl
    · rw [hcs]
      have hl : (parts'.toList.map (·.2)).length = len := by rw [List.length_map]; exact hlen
      rw [List.drop_eq_nil_of_le (by rw [hl]; simp)]
      simp
  obtain ⟨c, hrun, hc⟩ : ∃ c, (Instr.buildSlice t len parts').run P w = .ok (.slice (some ⟨w.heap.size, 0, none⟩) len len) { w with heap := w.heap.push (.cells c e) } ∧
        c.toList = (parts'.toList.map (·.2)).flatMap (fun v => v.cells.toList) := by
    by_cases hn : len * j.size = 0
    · exact hzz #[] (.inl ⟨hn, rfl⟩)
    · exact hzz z.cells (.inr ⟨hn, rfl⟩)
  have hlx : (parts'.toList.map (·.2)).length = len := by rw [List.length_map]; exact hlen
  refine ⟨c, e, hrun, by rw [r1, hlx], ?_, ?_, fun i row hi => ?_⟩
  · simp only [maxLen]; omega
  · rw [← Array.length_toList, hc, flat_length r2, hlx]; exact Nat.le_refl _
  · obtain ⟨q1, x, hx, qce, q2⟩ := r3 i row hi
    refine ⟨q1, fun jj d hjd => ?_⟩
    obtain ⟨y, hy, hr⟩ := VRels.get q2 hjd
    refine ⟨y, ?_, qce y (List.mem_of_getElem? hy), hr⟩
    rw [Nat.zero_add, ← Array.getElem?_toList, hc]
    exact flat_get r2 hx hy
end
end Go.Abs

/- The operations that ask nothing of the blocks, together. -/
namespace Go.Abs
open Go.RowKit

section
variable {C : Ctx} {I : Nat → Prop} {ρ : Ref → Pl} {st : St} {a : Act} {w : World}

def GoodN (P : Program) (I : Nat → Prop) (w : World) (ρ : Ref → Pl) (D : Ref → Prop) (s : Sem Next) (v : AV) : Prop :=
  ∃ x, s.run P w = .ok (.value x) w ∧ ARel I w ρ v x ∧ v.ok D

theorem Good.next {P : Program} {D : Ref → Prop} {s : Sem Value} {v : AV} (h : Good P I w ρ D s v) : GoodN P I w ρ D (do pure (Next.value (← s))) v := by
  obtain ⟨x, h1, h2⟩ := h
  exact ⟨x, by rw [run_bind_ok h1]; rfl, h2⟩

theorem map_rel (h : SCore C I ρ st a w) : ∀ xs : List Operand, ARels I w ρ (xs.map (opnd st.env)) (xs.map a.eval)
  | [] => by simp [ARels]
  | x :: xs => by simp only [List.map, ARels]; exact ⟨_, _, rfl, opnd_rel h x, map_rel h xs⟩
theorem map_ok (h : SCore C I ρ st a w) (xs : List Operand) : AV.oks (dom st.blk) (xs.map (opnd st.env)) := by
  rw [AV.oks_iff]; intro v hv; obtain ⟨x, _, rfl⟩ := List.mem_map.1 hv; exact opnd_ok h x

theorem parts_rel (h : SCore C I ρ st a w) : ∀ ps : List (Nat × Operand),
    ARels I w ρ ((ps.map fun (i, x) => (i, opnd st.env x)).map (·.2)) ((ps.map fun (i, x) => (i, a.eval x)).map (·.2))
  | [] => by simp [ARels]
  | (i, x) :: ps => by simp only [List.map, ARels]; exact ⟨_, _, rfl, opnd_rel h x, parts_rel h ps⟩
theorem parts_ok (h : SCore C I ρ st a w) (ps : List (Nat × Operand)) : AV.oks (dom st.blk) ((ps.map fun (i, x) => (i, opnd st.env x)).map (·.2)) := by
  rw [AV.oks_iff]; intro v hv
  simp only [List.map_map, List.mem_map] at hv
  obtain ⟨⟨i, x⟩, _, rfl⟩ := hv
  exact opnd_ok h x

theorem semN_none (h : SCore C I ρ st a w) (o : Oper) {r : Ref} {v : AV} (hs : semN C.P r (opnd st.env) o.op = some (v, none)) :
    GoodN C.P I w ρ (dom st.blk) (execOp a.eval o) v := by
  obtain ⟨dst, op, type, pos, after, guard⟩ := o
  simp only at hs
  have R := fun x => opnd_rel h x
  have K := fun x => opnd_ok h x
  cases op <;> simp only [semN, Option.map_eq_some_iff, Option.bind_eq_some_iff, reduceCtorEq, false_and, and_false, exists_false, Prod.mk.injEq, Option.some.injEq] at hs <;> simp only [execOp]
  case move x => obtain ⟨rfl, _⟩ := hs; exact ⟨_, rfl, R x, K x⟩
  case assign x => obtain ⟨rfl, _⟩ := hs; exact ⟨_, rfl, R x, K x⟩
  case pick c x y =>
    obtain ⟨t, ht, rfl, _⟩ := hs
    have hc := asBool_rel ht (R c)
    refine ⟨if t then a.eval x else a.eval y, ?_, ?_, ?_⟩
    · rw [hc]; rfl
    · cases t
      · exact R y
      · exact R x
    · cases t
      · exact K y
      · exact K x
  case build t parts =>
    obtain ⟨u, hu, rfl, _⟩ := hs
    exact Good.next (buildA_run hu (by simp [Function.comp_def]) (by simpa using parts_rel h parts.toList) (parts_ok h parts.toList))
  case alloc e => obtain ⟨i, _, hs⟩ := hs; split at hs <;> simp at hs
  case nilCheck x =>
    split at hs
    · rename_i e; simp at hs; obtain rfl := hs
      have := R x; rw [e] at this; simp only [ARel] at this; obtain ⟨ad, he, hr⟩ := this
      rw [he]; exact ⟨_, rfl, by simp only [ARel]; exact ⟨ad, rfl, hr⟩, by have := K x; rwa [e] at this⟩
    · rename_i e; simp at hs; obtain rfl := hs
      have := R x; rw [e] at this; simp only [ARel] at this; obtain ⟨ad, he, hr⟩ := this
      rw [he]; exact ⟨_, rfl, by simp only [ARel]; exact ⟨ad, rfl, hr⟩, by have := K x; rwa [e] at this⟩
    · rename_i e; simp at hs; obtain rfl := hs
      have := R x; rw [e] at this; simp only [ARel, VRel] at this; obtain ⟨b, o, he, hr⟩ := this
      rw [he]; exact ⟨_, rfl, by simp only [ARel, VRel]; exact ⟨b, o, rfl, hr⟩, by simp only [AV.ok]⟩
    · rename_i e; simp at hs; obtain rfl := hs
      have := R x; rw [e] at this; simp only [ARel] at this; obtain ⟨vs, us, he, hr⟩ := this
      rw [he]; exact ⟨_, rfl, by simp only [ARel]; exact ⟨vs, us, rfl, hr⟩, by have := K x; rwa [e] at this⟩
    · rename_i e; simp at hs; obtain rfl := hs
      have := R x; rw [e] at this; simp only [ARel, VRel] at this; obtain ⟨vs, us, he, hr⟩ := this
      rw [he]; exact ⟨_, rfl, by simp only [ARel, VRel]; exact ⟨vs, us, rfl, hr⟩, by simp only [AV.ok]⟩
    · cases hs
  case binOp op t x y _ =>
    obtain ⟨u, hu, rfl, _⟩ := hs
    exact Good.next (good_val (binV_run x y hu (R x) (R y)))
  case unOp op _ x =>
    obtain ⟨u, hu, rfl, _⟩ := hs
    exact Good.next (good_val (unV_run hu (R x)))
  case convert src dst x =>
    obtain ⟨u, hu, rfl, _⟩ := hs
    exact Good.next (convertA_run hu (R x))
  case makeInterface t x =>
    obtain ⟨i, ht, hs⟩ := hs
    split at hs
    · cases hs
    · rename_i hd
      simp at hs; subst hs
      refine Good.next ⟨.iface t (a.eval x), ?_, by simp only [ARel]; exact ⟨_, rfl, R x⟩, by simpa only [AV.ok] using K x⟩
      unfold Instr.makeInterface
      rw [run_bind_ok (run_underlying ht w)]
      split
      · rename_i e; exact absurd e (hd _)
      · rfl
  case makeFunc fn first captured =>
    obtain ⟨rfl, _⟩ := hs
    refine Good.next ⟨.func fn (first.map a.eval) (captured.map a.eval), rfl, ?_, ?_⟩
    · simp only [ARel]; exact ⟨_, _, rfl, by simpa using map_rel h first.toList, by simpa using map_rel h captured.toList⟩
    · simp only [AV.ok]; exact ⟨map_ok h _, map_ok h _⟩
  case slice t x lo hi mx =>
    cases mx with
    | some _ => simp at hs
    | none =>
      simp only [Option.map_eq_some_iff, Prod.mk.injEq] at hs
      obtain ⟨u, hu, rfl, _⟩ := hs
      refine Good.next (sliceA_run hu (R x) (K x) ?_ ?_ ?_ ?_)
      · intro b hb; cases lo with
        | none => simp at hb
        | some y => simp at hb; subst hb; exact ⟨_, rfl, R y⟩
      · intro b hb; cases hi with
        | none => simp at hb
        | some y => simp at hb; subst hb; exact ⟨_, rfl, R y⟩
      · intro hb; cases lo <;> simp_all
      · intro hb; cases hi <;> simp_all
  case fieldAddr s x f => obtain ⟨u, hu, rfl, _⟩ := hs; exact Good.next (fieldAddrA_run hu (R x) (K x))
  case field t x f => obtain ⟨u, hu, rfl, _⟩ := hs; exact Good.next (fieldA_run hu (R x) (K x))
  case indexAddr t x ix => obtain ⟨u, hu, rfl, _⟩ := hs; exact Good.next (indexAddrA_run hu (R x) (R ix) (K x))
  case index t x ix => obtain ⟨u, hu, rfl, _⟩ := hs; exact Good.next (indexA_run hu (R x) (R ix) (K x))
  case extract t ix =>
    split at hs
    · rename_i vs e
      simp only [Option.map_eq_some_iff, Prod.mk.injEq] at hs
      obtain ⟨u, hu, rfl, _⟩ := hs
      have hr := R t; rw [e] at hr; simp only [ARel] at hr; obtain ⟨xs, he, hr⟩ := hr
      obtain ⟨y, hy, hyr⟩ := hr.get hu
      refine Good.next ⟨y, ?_, hyr, ?_⟩
      · rw [he]; unfold Instr.extract; simp only; rw [← Array.getElem?_toList, hy]; rfl
      · have := K t; rw [e] at this; simp only [AV.ok] at this; exact AV.oks_get this hu
    · rename_i vs e
      simp only [Option.map_eq_some_iff, Prod.mk.injEq] at hs
      obtain ⟨u, hu, rfl, _⟩ := hs
      have hr := R t; rw [e] at hr; simp only [ARel, VRel] at hr; obtain ⟨xs, he, hr⟩ := hr
      obtain ⟨y, hy, hyr⟩ := hr.get hu
      refine Good.next ⟨y, ?_, by simpa only [ARel] using hyr, by simp only [AV.ok]⟩
      rw [he]; unfold Instr.extract; simp only; rw [← Array.getElem?_toList, hy]; rfl
    · cases hs
  case call c =>
    obtain ⟨callee, args, argTypes⟩ := c
    cases callee <;> try simp only [reduceCtorEq] at hs
    rename_i b
    cases b <;> simp only [reduceCtorEq, Option.bind_eq_some_iff, Option.map_eq_some_iff, Prod.mk.injEq] at hs
    case len =>
      obtain ⟨t, ht, x, hx, n, hn, rfl, _⟩ := hs
      have := lenA_run (P := C.P) (ty := type) hn (R x) argTypes (args.map a.eval) ht (by simp [hx])
      exact Good.next (good_val this)
    case min =>
      split at hs
      · rename_i x y e
        simp only [Option.map_eq_some_iff, Prod.mk.injEq] at hs
        obtain ⟨u, hu, rfl, _⟩ := hs
        have hl := map_rel h args.toList
        rw [e] at hl
        simp only [ARels] at hl
        obtain ⟨x', l1, e1, r1, y', l2, e2, r2, e3⟩ := hl
        subst e3; subst e2
        have := rel_val.1 r1; subst this; have := rel_val.1 r2; subst this
        have ha : args.map a.eval = #[x', y'] := by
          apply Array.ext'; simpa using e1
        refine Good.next (good_val ?_)
        simp only [ha]
        exact minV_run hu argTypes type
      · cases hs
    case max =>
      split at hs
      · rename_i x y e
        simp only [Option.map_eq_some_iff, Prod.mk.injEq] at hs
        obtain ⟨u, hu, rfl, _⟩ := hs
        have hl := map_rel h args.toList
        rw [e] at hl
        simp only [ARels] at hl
        obtain ⟨x', l1, e1, r1, y', l2, e2, r2, e3⟩ := hl
        subst e3; subst e2
        have := rel_val.1 r1; subst this; have := rel_val.1 r2; subst this
        have ha : args.map a.eval = #[x', y'] := by
          apply Array.ext'; simpa using e1
        refine Good.next (good_val ?_)
        simp only [ha]
        exact maxV_run hu argTypes type
      · cases hs
end
end Go.Abs

/- The operations that make a block. -/
namespace Go.Abs
open Go.RowKit

section
variable {C : Ctx} {I : Nat → Prop} {ρ : Ref → Pl} {st : St} {a : Act} {w : World}

theorem unfrozen_new (n : Nat) : Unfrozen n (0, 0) := by intro off _ h; simp at h

theorem alloc_vars (h : SCore C I ρ st a w) {r : Ref} (hr : st.blk r = none) (e : TypeId) (x : Value) (cs : List AV) (hce : Cellish x.cells.toList) (hc : ARels I w ρ cs x.cells.toList) (hok : AV.oks (dom st.blk) cs) :
    SCore C I (upd ρ r (.at w.heap.size 0 0 0)) ⟨st.env, upd st.blk r (some (.vars cs))⟩ a { w with heap := w.heap.push (.cells x.cells e) } ∧
    ARel I { w with heap := w.heap.push (.cells x.cells e) } (upd ρ r (.at w.heap.size 0 0 0)) (.ptr r 0) (.pointer (some ⟨w.heap.size, 0, none⟩)) := by
  constructor
  · refine h.alloc hr _ _ _ (by intro b o ct sz e; cases e; rfl) ?_ (AV.oks.mono dom_upd _ hok)
    refine ⟨w.heap.size, 0, 0, x.cells, e, (0, 0), upd_same _ _ _, push_new, ?_, unfrozen_new _, hce, ?_⟩
    · intro hb; have := h.heap.imm _ hb; omega
    · refine ARels.mono (D := dom st.blk) (fun _ k => k) (fun b hb => push_old (h.heap.imm b hb)) (fun y hy => .inl (upd_ne _ _ ?_)) _ _ hok hc
      rintro rfl; unfold dom at hy; rw [hr] at hy; cases hy
  · simp only [ARel]
    exact ⟨_, rfl, fun b o ct sz hb => by rw [upd_same] at hb; cases hb; rfl⟩

theorem alloc_arr (h : SCore C I ρ st a w) {r : Ref} (hr : st.blk r = none) (e : TypeId) (c : Array Value) (sz : Nat) (rows : List (List PD)) (n cap : Nat)
    (h1 : rows.length ≤ cap) (h2 : n ≤ cap) (h3 : cap ≤ maxLen) (h4 : cap * sz ≤ c.size)
    (hc : ∀ i row, rows[i]? = some row → row.length = sz ∧ ∀ j d, row[j]? = some d → ∃ x, c[0 + i * sz + j]? = some x ∧ cellish x = true ∧ VRel I w d x) :
    SCore C I (upd ρ r (.at w.heap.size 0 cap sz)) ⟨st.env, upd st.blk r (some (.arr sz rows))⟩ a { w with heap := w.heap.push (.cells c e) } ∧
    ARel I { w with heap := w.heap.push (.cells c e) } (upd ρ r (.at w.heap.size 0 cap sz)) (.sl r sz 0 n) (.slice (some ⟨w.heap.size, 0, none⟩) n cap) := by
  constructor
  · refine h.alloc hr _ _ _ (by intro b o ct sz e; cases e; rfl) ?_ trivial
    refine .inr ⟨w.heap.size, 0, cap, c, e, (0, 0), upd_same _ _ _, push_new, ?_, unfrozen_new _, ?_, h1, h3, by omega⟩
    · intro hb; have := h.heap.imm _ hb; omega
    · refine VRows.of_cells push_new sz rows 0 fun i row hi => ?_
      obtain ⟨q1, q2⟩ := hc i row hi
      refine ⟨q1, fun j d hj => ?_⟩
      obtain ⟨x, hx, hce, hd⟩ := q2 j d hj
      exact ⟨x, hx, hce, VRel.mono (fun _ k => k) (fun b hb => push_old (h.heap.imm b hb)) _ _ hd⟩
  · simp only [ARel]
    refine ⟨some ⟨w.heap.size, 0, none⟩, cap, rfl, h2, fun hb => (by cases hb), fun hb => ?_, fun b o ct sz' hb => ?_⟩
    · rw [upd_same] at hb; cases hb
    · rw [upd_same] at hb; cases hb
      exact ⟨rfl, by omega, h2, fun hb => (by cases hb), fun _ => by simp⟩

theorem semN_some (h : SCore C I ρ st a w) (o : Oper) {r : Ref} (hr : st.blk r = none) {v : AV} {B : Block} (hs : semN C.P r (opnd st.env) o.op = some (v, some B)) :
    ∃ x ρ' w', (execOp a.eval o).run C.P w = .ok (.value x) w' ∧ SCore C I ρ' ⟨st.env, upd st.blk r (some B)⟩ a w' ∧ ARel I w' ρ' v x ∧ v.ok (dom (upd st.blk r (some B))) := by
  obtain ⟨dst, op, type, pos, after, guard⟩ := o
  simp only at hs
  have R := fun x => opnd_rel h x
  have K := fun x => opnd_ok h x
  cases op <;> simp only [semN, Option.map_eq_some_iff, Option.bind_eq_some_iff, reduceCtorEq, false_and, and_false, exists_false, Prod.mk.injEq, Option.some.injEq] at hs <;> simp only [execOp]
  case alloc e =>
    obtain ⟨i, ht, hs⟩ := hs
    split at hs
    case isFalse => cases hs
    rename_i hzc
    simp only [Option.some.injEq, Prod.mk.injEq] at hs
    obtain ⟨rfl, rfl⟩ := hs
    obtain ⟨z, hz, hzr⟩ := run_zeroValue ht
    obtain ⟨s1, s2⟩ := alloc_vars h hr e z (i.zero.map ofVal) (by rw [hz]; exact fun v hv => List.all_eq_true.1 hzc v hv) (by rw [hz]; exact ofVals_rel _) (ofVals_ok _)
    refine ⟨_, _, _, ?_, s1, s2, by simp only [AV.ok]; exact dom_upd_self⟩
    unfold Instr.alloc
    rw [run_bind_ok (a := .pointer (some ⟨w.heap.size, 0, none⟩)) (w' := { w with heap := w.heap.push (.cells z.cells e) }) (by rw [run_bind_ok (hzr w)]; rfl)]
    rfl
  case box e x =>
    obtain ⟨cs, hc, rfl, rfl⟩ := hs
    obtain ⟨s1, s2⟩ := alloc_vars h hr e (a.eval x) cs (avCells_rel hc (R x)).1 (avCells_rel hc (R x)).2 (avCells_ok hc (K x))
    exact ⟨_, _, _, rfl, s1, s2, by simp only [AV.ok]; exact dom_upd_self⟩
  case buildSlice t n parts =>
    obtain ⟨⟨sz, rows⟩, hb, hs⟩ := hs
    simp only [Prod.mk.injEq, Option.some.injEq] at hs
    obtain ⟨rfl, rfl⟩ := hs
    obtain ⟨c, e, hrun, l1, l2, l3, l4⟩ := buildSliceA_run (P := C.P) (w := w) (parts' := parts.map fun (i, x) => (i, a.eval x)) h.heap.imm hb (by simp [Function.comp_def]) (by simpa using parts_rel h parts.toList)
    obtain ⟨s1, s2⟩ := alloc_arr h hr e c sz rows n n (by omega) (Nat.le_refl _) l2 l3 l4
    exact ⟨_, _, _, by rw [run_bind_ok hrun]; rfl, s1, s2, by simp only [AV.ok]; exact dom_upd_self⟩
  case nilCheck x => split at hs <;> simp at hs
  case makeSlice t l c =>
    obtain ⟨len, hl, cap, hc, ⟨sz, rows⟩, hb, hs⟩ := hs
    simp only [Prod.mk.injEq, Option.some.injEq] at hs
    obtain ⟨rfl, rfl⟩ := hs
    obtain ⟨k1, e1⟩ := asInt_rel hl (R l)
    obtain ⟨k2, e2⟩ := asInt_rel hc (R c)
    obtain ⟨cc, e, hrun, l1, l2, l3, l4, l5⟩ := makeSliceA_run (P := C.P) (w := w) (k := k1) (k' := k2) hb
    obtain ⟨s1, s2⟩ := alloc_arr h hr e cc sz rows len.toNat cap.toNat (by omega) l2 l3 l4 (fun i row hi => ⟨(l5 i row hi).1, fun j d hj => by
      obtain ⟨x, hx, hce, hr⟩ := (l5 i row hi).2 j d hj; exact ⟨x, hx, hce, hr I w⟩⟩)
    exact ⟨_, _, _, by rw [e1, e2, run_bind_ok hrun]; rfl, s1, s2, by simp only [AV.ok]; exact dom_upd_self⟩
  case makeInterface t x => obtain ⟨i, ht, hs⟩ := hs; split at hs <;> simp at hs
  case slice t x lo hi mx => cases mx <;> simp at hs
  case extract t ix => split at hs <;> simp at hs
  case call c =>
    obtain ⟨callee, args, argTypes⟩ := c
    cases callee <;> try simp only [reduceCtorEq] at hs
    rename_i b
    cases b <;> simp only [reduceCtorEq, Option.bind_eq_some_iff, Option.map_eq_some_iff, Prod.mk.injEq, and_false, exists_false] at hs
    all_goals (split at hs <;> simp at hs)
end
end Go.Abs

/- Operations that read blocks; calls of functions that work on pure data. -/
namespace Go.Abs
open Go.RowKit

section
variable {C : Ctx} {I I' : Nat → Prop} {ρ : Ref → Pl} {st : St} {a : Act} {w : World} {P : Program} {D : Ref → Prop}

theorem VAt.values : ∀ {ds : List PD} {b off : Nat}, VAt I w b off ds → ∃ vs, Cellish vs ∧ VRels I w ds vs ∧ ∀ j v, vs[j]? = some v → World.cellAt w b (off + j) = some v
  | [], b, off, _ => ⟨[], by simp [Cellish], by simp [VRels], by simp⟩
  | d :: ds, b, off, h => by
    simp only [VAt] at h
    obtain ⟨⟨x, hx, hce, hr⟩, h⟩ := h
    obtain ⟨vs, h0, h1, h2⟩ := VAt.values h
    refine ⟨x :: vs, by intro v hv; simp at hv; rcases hv with rfl | hv; exact hce; exact h0 v hv, by simp only [VRels]; exact ⟨x, vs, rfl, hr, h1⟩, fun j v hj => ?_⟩
    cases j with
    | zero => simp at hj; subst hj; simpa using hx
    | succ j => rw [show off + (j + 1) = off + 1 + j by omega]; exact h2 j v (by simpa using hj)

/-- The cells behind an address, in the world. -/
theorem cellsA_rel {blk : Blk} (H : HRel I ρ w blk) {n : Nat} {x : AV} {cs : List AV} {x' : Value} (h : cellsA blk n x = some cs) (hx : ARel I w ρ x x') :
    cs.length = n ∧ AV.oks (dom blk) cs ∧ ∃ b o vs, x' = .pointer (some ⟨b, o, none⟩) ∧ Cellish vs ∧ ARels I w ρ cs vs ∧ ∀ j v, vs[j]? = some v → World.cellAt w b (o + j) = some v := by
  unfold cellsA at h
  split at h
  · rename_i r off
    split at h
    · rename_i cs0 hb
      obtain ⟨b, ct, sz, c, el, fz, h1, h2, h3, h4, hce, h5⟩ := H.rel r _ hb
      simp only [ARel] at hx; obtain ⟨ad, rfl, hx⟩ := hx
      have hx := hx _ _ _ _ h1; subst hx
      obtain ⟨hl, rfl⟩ := window_some h
      refine ⟨by simp; omega, AV.oks_take _ (AV.oks_drop _ (H.ok r _ hb)), b, 0 + off, _, rfl, (hce.drop off).take n, (h5.drop off).take n, fun j v hj => ?_⟩
      rw [cellAt_cells h2]
      have hjn : j < n := by
        rcases Nat.lt_or_ge j n with h | h
        · exact h
        · rw [List.getElem?_eq_none (by simp; omega)] at hj; cases hj
      rw [List.getElem?_take_of_lt hjn, List.getElem?_drop] at hj
      rw [Nat.zero_add, ← Array.getElem?_toList]; exact hj
    · cases h
  · rename_i r row off
    simp only [ARel] at hx; obtain ⟨ad, rfl, hx⟩ := hx
    have key : ∀ (b o ct sz : Nat) (rows : List (List PD)), ρ r = .at b o ct sz → VRows I w b o sz rows → ((rows[row]?).bind fun cs => (window cs off n).map (·.map .pd)) = some cs →
        cs.length = n ∧ AV.oks (dom blk) cs ∧ ∃ b o vs, (Value.pointer (some ad)) = .pointer (some ⟨b, o, none⟩) ∧ Cellish vs ∧ ARels I w ρ cs vs ∧ ∀ j v, vs[j]? = some v → World.cellAt w b (o + j) = some v := by
      intro b o ct sz rows hp hr h
      simp only [Option.bind_eq_some_iff, Option.map_eq_some_iff] at h
      obtain ⟨cs0, hrow, ds, hw, rfl⟩ := h
      have hx := hx _ _ _ _ hp; subst hx
      obtain ⟨_, hv⟩ := VRows.get hr hrow
      obtain ⟨vs, g0, g1, g2⟩ := hv.values
      obtain ⟨hl, rfl⟩ := window_some hw
      have g1' : ARels I w ρ (cs0.map .pd) vs := ARels.pd.2 g1
      refine ⟨by simp; omega, AV.oks_pd _, b, o + row * sz + off, (vs.drop off).take n, rfl, (g0.drop off).take n, ?_, fun j v hj => ?_⟩
      · have := (g1'.drop off).take n
        simpa only [List.map_take, List.map_drop] using this
      · have hjn : j < n := by
          rcases Nat.lt_or_ge j n with h | h
          · exact h
          · rw [List.getElem?_eq_none (by simp; omega)] at hj; cases hj
        rw [List.getElem?_take_of_lt hjn, List.getElem?_drop] at hj
        have := g2 _ _ hj
        rwa [← Nat.add_assoc] at this
    split at h
    · rename_i sz rows hb
      rcases H.rel r _ hb with ⟨h1, _⟩ | ⟨b, o, ct, c, el, fz, h1, h2, h3, h4, h5, h6⟩
      · subst h1; simp at h
      · exact key _ _ _ _ _ h1 h5 h
    · rename_i sz rows hb
      rcases H.rel r _ hb with ⟨h1, _⟩ | ⟨b, o, ct, h1, h2, h3, h4⟩
      · subst h1; simp at h
      · exact key _ _ _ _ _ h1 h3 h
    · cases h
  · rename_i cs0 off
    simp only [Option.map_eq_some_iff] at h
    obtain ⟨ds, hw, rfl⟩ := h
    simp only [ARel, VRel] at hx; obtain ⟨b, o, rfl, hI, hv⟩ := hx
    obtain ⟨vs, g0, g1, g2⟩ := hv.values
    obtain ⟨hl, rfl⟩ := window_some hw
    have g1' : ARels I w ρ (cs0.map .pd) vs := ARels.pd.2 g1
    refine ⟨by simp; omega, AV.oks_pd _, b, o + off, (vs.drop off).take n, rfl, (g0.drop off).take n, ?_, fun j v hj => ?_⟩
    · have := (g1'.drop off).take n
      simpa only [List.map_take, List.map_drop] using this
    · have hjn : j < n := by
        rcases Nat.lt_or_ge j n with h | h
        · exact h
        · rw [List.getElem?_eq_none (by simp; omega)] at hj; cases hj
      rw [List.getElem?_take_of_lt hjn, List.getElem?_drop] at hj
      have := g2 _ _ hj
      rwa [← Nat.add_assoc] at this
  · cases h

theorem loadA_run {blk : Blk} (H : HRel I ρ w blk) {t : TypeId} {x v : AV} {x' : Value} (h : loadA P blk t x = some v) (hx : ARel I w ρ x x') :
    Good P I w ρ (dom blk) (Instr.loadAt t x') v := by
  simp only [loadA, Option.bind_eq_some_iff] at h
  obtain ⟨i, ht, cs, hc, h⟩ := h
  obtain ⟨hn, hok, b, o, vs, rfl, hce, hr, hv⟩ := cellsA_rel H hc hx
  have hrun : ∀ s, (loadVar t ⟨b, o, none⟩).run P w = s → (Instr.loadAt t (.pointer (some ⟨b, o, none⟩))).run P w = s := by
    intro s hs; exact hs
  split at h
  · rename_i ha
    cases h
    refine ⟨.agg vs.toArray, hrun _ ?_, ?_, by simpa only [AV.ok] using hok⟩
    · unfold loadVar
      rw [run_bind_ok (run_isAgg ht w), if_pos ha, run_bind_ok (run_sizeOf ht w)]
      have hl := hr.length
      have := run_loadCells_list (P := P) w ⟨b, o, none⟩ vs (fun j v hj => by rw [addr_add]; exact hv j v hj)
      rw [hl, hn] at this
      rw [run_bind_ok this]; rfl
    · simp only [ARel]; exact ⟨_, rfl, by simpa using hce, by simpa using hr⟩
  · rename_i ha
    split at h
    · rename_i c
      cases h
      simp only [ARels] at hr; obtain ⟨y, ys, rfl, hr, rfl⟩ := hr
      simp only [AV.oks] at hok
      refine ⟨y, hrun _ ?_, hr, hok.1⟩
      unfold loadVar
      rw [run_bind_ok (run_isAgg ht w), if_neg ha]
      have := hv 0 y (by simp)
      simp only [World.cellAt, Nat.add_zero] at this
      show Sem.run P (.load .plain ⟨b, o, none⟩ .pure) w = _
      simp [Sem.run, this]
    · cases h

def Enters (P : Program) (f : FuncId) : Prop := ∃ fn c, P.funcs[f]? = some fn ∧ (fn.name == "runtime.NumGoroutine") = false ∧ fn.body = some c

theorem run_callFunc {f : FuncId} (h : Enters P f) (args : Array Value) (w : World) : (callFunc f args).run P w = .ok (.enter f args) w := by
  obtain ⟨fn, c, h1, h2, h3⟩ := h
  unfold callFunc
  rw [run_bind_ok (a := P) (w' := w) rfl, h1]
  simp [h2, h3]

/-- What a function does that works on pure data. -/
def PSound (P : Program) (f : FuncId) (F : List PD → Option PD) : Prop :=
  ∀ (I : Nat → Prop) (w : World) (ds : List PD) (xs : List Value) (r : PD), F ds = some r → (∀ b, I b → b < w.heap.size) → VRels I w ds xs →
    Calls P f xs.toArray w fun e w' => ∃ x, e = .returned x ∧ Below w.heap.size w w' ∧ VRel (fun b => I b ∨ (w.heap.size ≤ b ∧ b < w'.heap.size)) w' r x

theorem asFun_rel {f : AV} {g : FuncId} {first captured : List AV} {x : Value} (h : asFun f = some (g, first, captured)) (hx : ARel I w ρ f x) (hok : f.ok D) :
    ∃ vs us, x = .func (.func g) vs us ∧ ARels I w ρ first vs.toList ∧ ARels I w ρ captured us.toList ∧ AV.oks D first ∧ AV.oks D captured := by
  unfold asFun at h
  split at h
  · cases h; simp only [ARel] at hx; obtain ⟨vs, us, e, h1, h2⟩ := hx
    simp only [AV.ok] at hok
    exact ⟨vs, us, e, h1, h2, hok.1, hok.2⟩
  · cases h; simp only [ARel, VRel] at hx; obtain ⟨vs, us, e, h1, h2⟩ := hx
    exact ⟨vs, us, e, ARels.pd.2 h1, ARels.pd.2 h2, AV.oks_pd _, AV.oks_pd _⟩
  · cases h

theorem ARels.views {live : Bool} {blk : Blk} (H : ∀ r B, blk r = some B → BRel I w ρ r B) (hI : ∀ b, I b → I' b)
    (hlive : live = true → ∀ r B b o ct sz, blk r = some B → B.owned = true → ρ r = .at b o ct sz → I' b) {vs : List AV} {ds : List PD} {xs : List Value}
    (h : vs.mapM (view live blk 8) = some ds) (k : ARels I w ρ vs xs) : VRels I' w ds xs :=
  ARels.of_mapM (fun v d x hv hx => view_rel H hI hlive 8 v d x hv hx) vs ds xs h k

/-- After a call of such a function. -/
theorem SCore.called (h : SCore C I ρ st a w) {w' : World} (hb : Below w.heap.size w w') : SCore C (fun b => I b ∨ (w.heap.size ≤ b ∧ b < w'.heap.size)) ρ st a w' := by
  have hI : ∀ b, I b → I b ∨ (w.heap.size ≤ b ∧ b < w'.heap.size) := fun b k => .inl k
  have hw : ∀ b, I b → w'.heap[b]? = w.heap[b]? := fun b k => hb.block b (h.heap.imm b k)
  refine h.step hI hw (fun _ _ => .inl rfl) (fun _ k => k) ⟨?_, fun r B hr => ?_, h.heap.inj, h.heap.ok⟩ ?_ ?_ h.own
  · rintro b (k | k)
    · exact Nat.lt_of_lt_of_le (h.heap.imm b k) hb.size
    · exact k.2
  · refine (h.heap.rel r B hr).mono (D := dom st.blk) hI hw (fun _ _ => .inl rfl) rfl (h.heap.ok r B hr) fun b o ct sz hp hO => ?_
    obtain ⟨h1, h2⟩ := h.heap.placed_lt hr hO hp
    exact ⟨hb.block b h1, fun k => k.elim h2 (fun k => by omega)⟩
  · rintro b (k | k)
    · exact h.new b k
    · have := h.frame.size; exact .inr (.inl (by omega))
  · exact ⟨hb.os.trans h.frame.os, hb.tape.trans h.frame.tape, hb.output.trans h.frame.output, Nat.le_trans h.frame.size hb.size,
      fun b k kf => (hb.block b (Nat.lt_of_lt_of_le k h.frame.size)).trans (h.frame.block b k kf)⟩

theorem callP_calls {Γ : Gam} {f : FuncId} {args : List AV} {v : AV} {xs : List Value} (h : SCore C I ρ st a w) (hΓ : ∀ F, Γ f = some (.p F) → PSound C.P f F)
    (hc : callP Γ st.blk f args = some v) (hx : ARels I w ρ args xs) :
    Calls C.P f xs.toArray w fun e w' => ∃ x I', e = .returned x ∧ SCore C I' ρ st a w' ∧ ARel I' w' ρ v x ∧ v.ok (dom st.blk) := by
  unfold callP at hc
  split at hc
  case h_2 => cases hc
  rename_i F hF
  have hs := hΓ F hF
  split at hc
  · rename_i ds hd
    simp only [Option.map_eq_some_iff] at hc
    obtain ⟨r, hr, rfl⟩ := hc
    refine (hs I w ds xs r hr h.heap.imm (ARels.views h.heap.rel (fun _ k => k) (fun k => by cases k) hd hx)).mono ?_
    rintro e w' ⟨x, rfl, hb, hv⟩
    exact ⟨x, _, rfl, h.called hb, by simpa only [ARel] using hv, by simp only [AV.ok]⟩
  · simp only [Option.bind_eq_some_iff] at hc
    obtain ⟨ds, hd, r, hr, hc⟩ := hc
    split at hc
    · rename_i hfl
      cases hc
      refine (hs (fun b => b < w.heap.size) w ds xs r hr (fun _ k => k) (ARels.views h.heap.rel h.heap.imm (fun _ q B b o ct sz hq hB hp => (h.heap.placed_lt hq hB hp).1) hd hx)).mono ?_
      rintro e w' ⟨x, rfl, hb, hv⟩
      exact ⟨x, _, rfl, h.called hb, by simp only [ARel]; exact VRel.any_of_flat hfl hv, by simp only [AV.ok]⟩
    · cases hc
end
end Go.Abs

/- A change of some of one's own blocks. -/
namespace Go.Abs
open Go.RowKit

section
variable {C : Ctx} {I : Nat → Prop} {ρ : Ref → Pl} {st : St} {a : Act} {w : World} {P : Program}

/-- Block b is that of one of S's names. -/
def Held (S : Ref → Prop) (blk : Blk) (ρ : Ref → Pl) (b : Nat) : Prop := ∃ x B o ct sz, S x ∧ blk x = some B ∧ B.owned = true ∧ ρ x = .at b o ct sz

theorem SCore.change (h : SCore C I ρ st a w) {w' : World} {ρ' : Ref → Pl} {blk' : Blk} (S : Ref → Prop)
    (hw : ∀ b, b < w.heap.size → ¬ Held S st.blk ρ b → w'.heap[b]? = w.heap[b]?) (hsize : w.heap.size ≤ w'.heap.size)
    (hos : w'.os = w.os) (htape : w'.tape = w.tape) (hout : w'.output = w.output)
    (hblk : ∀ x, ¬ S x → blk' x = st.blk x) (hρ : ∀ x, ¬ S x → ρ' x = ρ x)
    (hrel : ∀ x B, S x → blk' x = some B → BRel I w' ρ' x B ∧ B.ok (dom blk'))
    (hplace : ∀ x B b o ct sz, S x → blk' x = some B → B.owned = true → ρ' x = .at b o ct sz → w.heap.size ≤ b ∨ Held S st.blk ρ b)
    (hinj : ∀ x y B B' b o ct sz o' ct' sz', S x → S y → blk' x = some B → B.owned = true → blk' y = some B' → B'.owned = true → ρ' x = .at b o ct sz → ρ' y = .at b o' ct' sz' → x = y)
    (hlater : ∀ x, S x → dom st.blk x → ρ' x = ρ x ∨ ρ' x = .gone) (hdom : ∀ x, dom st.blk x → dom blk' x) : SCore C I ρ' ⟨st.env, blk'⟩ a w' := by
  have nI : ∀ b, I b → ¬ Held S st.blk ρ b := by
    rintro b hb ⟨x, B, o, ct, sz, _, h1, h2, h3⟩
    exact (h.heap.placed_lt h1 h2 h3).2 hb
  have hwI : ∀ b, I b → w'.heap[b]? = w.heap[b]? := fun b hb => hw b (h.heap.imm b hb) (nI b hb)
  have hL : Later (dom st.blk) ρ ρ' := by
    intro x hx
    rcases Classical.em (S x) with hs | hs
    · exact hlater x hs hx
    · exact .inl (hρ x hs)
  have other : ∀ x B b o ct sz, ¬ S x → st.blk x = some B → B.owned = true → ρ x = .at b o ct sz → ¬ Held S st.blk ρ b := by
    rintro x B b o ct sz hs hx hB hp ⟨y, B', o', ct', sz', hy, h1, h2, h3⟩
    have := h.heap.inj x y B B' b _ _ _ _ _ _ hx hB h1 h2 hp h3
    subst this; exact hs hy
  refine h.step (fun _ k => k) hwI hL hdom ⟨fun b hb => Nat.lt_of_lt_of_le (h.heap.imm b hb) hsize, ?_, ?_, ?_⟩ h.new ?_ ?_
  · intro x B hx
    rcases Classical.em (S x) with hs | hs
    · exact (hrel x B hs hx).1
    · rw [hblk x hs] at hx
      refine (h.heap.rel x B hx).mono (D := dom st.blk) (fun _ k => k) hwI hL (hρ x hs) (h.heap.ok x B hx) fun b o ct sz hp hO => ?_
      obtain ⟨h1, h2⟩ := h.heap.placed_lt hx hO hp
      exact ⟨hw b h1 (other x B b o ct sz hs hx hO hp), h2⟩
  · intro x y B B' b o ct sz o' ct' sz' hx hB hy hB' hp hq
    rcases Classical.em (S x) with hs | hs
    · rcases Classical.em (S y) with ht | ht
      · exact hinj x y B B' b _ _ _ _ _ _ hs ht hx hB hy hB' hp hq
      · exfalso
        rw [hblk y ht] at hy; rw [hρ y ht] at hq
        rcases hplace x B b _ _ _ hs hx hB hp with h1 | h1
        · have := (h.heap.placed_lt hy hB' hq).1; omega
        · exact other y B' b _ _ _ ht hy hB' hq h1
    · rcases Classical.em (S y) with ht | ht
      · exfalso
        rw [hblk x hs] at hx; rw [hρ x hs] at hp
        rcases hplace y B' b _ _ _ ht hy hB' hq with h1 | h1
        · have := (h.heap.placed_lt hx hB hp).1; omega
        · exact other x B b _ _ _ hs hx hB hp h1
      · rw [hblk x hs] at hx; rw [hρ x hs] at hp; rw [hblk y ht] at hy; rw [hρ y ht] at hq
        exact h.heap.inj x y B B' b _ _ _ _ _ _ hx hB hy hB' hp hq
  · intro x B hx
    rcases Classical.em (S x) with hs | hs
    · exact (hrel x B hs hx).2
    · rw [hblk x hs] at hx
      have := h.heap.ok x B hx
      cases B with
      | vars cs => exact AV.oks.mono hdom cs this
      | _ => trivial
  · refine ⟨hos.trans h.frame.os, htape.trans h.frame.tape, hout.trans h.frame.output, Nat.le_trans h.frame.size hsize, fun b hb hf => ?_⟩
    refine (hw b (Nat.lt_of_lt_of_le hb h.frame.size) ?_).trans (h.frame.block b hb hf)
    rintro ⟨x, B, o, ct, sz, _, h1, h2, h3⟩
    have := h.own x B b _ _ _ h1 h2 h3 hf
    omega
  · intro x B b o ct sz hx hB hp hf
    rcases Classical.em (S x) with hs | hs
    · rcases hplace x B b _ _ _ hs hx hB hp with h1 | ⟨y, B', o', ct', sz', hy, h1, h2, h3⟩
      · exact Nat.le_trans h.frame.size h1
      · exact h.own y B' b _ _ _ h1 h2 h3 hf
    · rw [hblk x hs] at hx; rw [hρ x hs] at hp
      exact h.own x B b _ _ _ hx hB hp hf

/-- The heap with one block's cells replaced. -/
def World.put (w : World) (b : Nat) (c : Array Value) (el : TypeId) (fz : Nat × Nat) : World := { w with heap := w.heap.setIfInBounds b (.cells c el fz) }

theorem put_same {b : Nat} {c : Array Value} {el : TypeId} {fz : Nat × Nat} (hb : b < w.heap.size) : (World.put w b c el fz).heap[b]? = some (.cells c el fz) := by
  simp [World.put, hb]
theorem put_other {b b' : Nat} {c : Array Value} {el : TypeId} {fz : Nat × Nat} (h : b' ≠ b) : (World.put w b c el fz).heap[b']? = w.heap[b']? := by
  simp [World.put, Array.getElem?_setIfInBounds_ne (Ne.symm h)]
theorem put_size {b : Nat} {c : Array Value} {el : TypeId} {fz : Nat × Nat} : (World.put w b c el fz).heap.size = w.heap.size := by simp [World.put]
theorem put_put {b : Nat} {c c' : Array Value} {el : TypeId} {fz : Nat × Nat} : World.put (World.put w b c el fz) b c' el fz = World.put w b c' el fz := by
  simp [World.put]
theorem put_self {b : Nat} {c : Array Value} {el : TypeId} {fz : Nat × Nat} (h : w.heap[b]? = some (.cells c el fz)) : World.put w b c el fz = w := by
  have hb := lt_of_cells h
  have : w.heap.setIfInBounds b (.cells c el fz) = w.heap := by
    apply Array.ext_getElem?
    intro i
    by_cases e : i = b
    · subst e; rw [h]; simp [hb]
    · rw [Array.getElem?_setIfInBounds_ne (Ne.symm e)]
  cases w; simp only [World.put] at this ⊢; rw [this]

theorem run_storeOne {b off : Nat} {v : Value} {c : Array Value} {el : TypeId} {fz : Nat × Nat} (h : w.heap[b]? = some (.cells c el fz)) (hu : Unfrozen c.size fz) (hv : cellish v = true) (ho : off < c.size) :
    (store ⟨b, off, none⟩ v).run P w = .ok () (World.put w b (c.setIfInBounds off v) el fz) := by
  have hc : w.cell? ⟨b, off, none⟩ = some c[off] := by simp [World.cell?, h, ho]
  have hf : w.frozen? ⟨b, off, none⟩ = false := by
    have := hu off ho
    simp only [World.frozen?, h]
    simpa using this
  have hset : w.setCell ⟨b, off, none⟩ v = World.put w b (c.setIfInBounds off v) el fz := by
    have hb := lt_of_cells h
    unfold World.setCell World.put
    congr 1
    apply Array.ext_getElem?
    intro i
    by_cases e : i = b
    · subst e; rw [Array.getElem?_modify, if_pos rfl, h]; simp [hb]
    · rw [Array.getElem?_setIfInBounds_ne (Ne.symm e), Array.getElem?_modify, if_neg (Ne.symm e)]
  unfold store
  cases v <;> first | (simp [cellish] at hv; done) | (simp only [Sem.run, hc, hf, hset]; rfl)

theorem run_storeCells {b o : Nat} {el : TypeId} {fz : Nat × Nat} : ∀ (vs : List Value) (i : Nat) (w : World) (c : Array Value), w.heap[b]? = some (.cells c el fz) → Unfrozen c.size fz → Cellish vs →
    o + i + vs.length ≤ c.size → (storeCells ⟨b, o, none⟩ vs i).run P w = .ok () (World.put w b (c.toList.take (o + i) ++ vs ++ c.toList.drop (o + i + vs.length)).toArray el fz)
  | [], i, w, c, h, _, _, _ => by
    have : (c.toList.take (o + i) ++ [] ++ c.toList.drop (o + i + ([] : List Value).length)).toArray = c := by simp
    rw [this, put_self h]; rfl
  | v :: vs, i, w, c, h, hu, hv, ho => by
    simp only [List.length_cons] at ho
    have h1 := run_storeOne (P := P) h hu (hv v (by simp)) (off := o + i) (by omega)
    have hb := lt_of_cells h
    have h2 := run_storeCells (o := o) (el := el) (fz := fz) vs (i + 1) (World.put w b (c.setIfInBounds (o + i) v) el fz) (c.setIfInBounds (o + i) v) (put_same hb)
      (by simpa using hu) (fun x hx => hv x (by simp [hx])) (by simp; omega)
    unfold storeCells
    rw [addr_add, run_bind_ok h1, h2, put_put]
    congr 3
    have hlt : o + i < c.toList.length := by simp; omega
    rw [Array.toList_setIfInBounds, show o + (i + 1) = o + i + 1 by omega, List.take_succ_eq_append_getElem (by simpa using hlt),
      List.take_set_of_le (Nat.le_refl _), List.drop_set_of_lt (by omega)]
    simp
    omega

end
end Go.Abs

/- Stores; what is appended or copied. -/
namespace Go.Abs
open Go.RowKit

section
variable {C : Ctx} {I : Nat → Prop} {ρ : Ref → Pl} {st : St} {a : Act} {w : World} {P : Program}

theorem spliced_get {α : Type} {c vs : List α} {p k : Nat} (h : p + vs.length ≤ c.length) :
    (c.take p ++ vs ++ c.drop (p + vs.length))[k]? = if p ≤ k ∧ k < p + vs.length then vs[k - p]? else c[k]? := by
  have l1 : (c.take p).length = p := by simp; omega
  by_cases h1 : k < p
  · rw [if_neg (by omega), List.append_assoc, List.getElem?_append_left (by omega), List.getElem?_take_of_lt h1]
  · by_cases h2 : k < p + vs.length
    · rw [if_pos ⟨by omega, h2⟩, List.getElem?_append_left (by simp; omega), List.getElem?_append_right (by omega), l1]
    · rw [if_neg (by omega), List.getElem?_append_right (by simp; omega), List.getElem?_drop]
      congr 1
      simp; omega

theorem spliced_length {α : Type} {c vs : List α} {p : Nat} (h : p + vs.length ≤ c.length) : (c.take p ++ vs ++ c.drop (p + vs.length)).length = c.length := by simp; omega

theorem VRows.values : ∀ {rows : List (List PD)} {b off sz : Nat}, VRows I w b off sz rows → ∃ vs, Cellish vs ∧ VRels I w rows.flatten vs ∧ vs.length = rows.length * sz ∧
    ∀ j v, vs[j]? = some v → World.cellAt w b (off + j) = some v
  | [], b, off, sz, _ => ⟨[], by simp [Cellish], by simp [VRels], by simp, by simp⟩
  | r :: rs, b, off, sz, h => by
    simp only [VRows] at h
    obtain ⟨h1, h2, h3⟩ := h
    obtain ⟨vs, a1, a2, a3⟩ := h2.values
    obtain ⟨us, b1, b2, b3, b4⟩ := VRows.values h3
    have hl : vs.length = sz := by rw [a2.length, h1]
    refine ⟨vs ++ us, a1.append b1, ?_, by simp [hl, b3, Nat.add_mul]; omega, fun j v hj => ?_⟩
    · have := ARels.append (ρ := fun _ => .gone) (ARels.pd.2 a2) (ARels.pd.2 b2)
      rw [← List.map_append] at this
      simpa using ARels.pd.1 this
    · by_cases hjs : j < sz
      · rw [List.getElem?_append_left (by omega)] at hj; exact a3 j v hj
      · rw [List.getElem?_append_right (by omega), hl] at hj
        have := b4 _ v hj
        rwa [show off + sz + (j - sz) = off + j by omega] at this

/-- Flattened rows. -/
theorem flatten_get {α : Type} {sz : Nat} : ∀ {rows : List (List α)} {i j : Nat} {row : List α} {d : α}, (∀ r ∈ rows, r.length = sz) → rows[i]? = some row → row[j]? = some d →
    rows.flatten[i * sz + j]? = some d
  | [], i, j, row, d, _, h, _ => by simp at h
  | r :: rs, 0, j, row, d, hr, h, hj => by
    simp at h; subst h
    have : j < r.length := (List.getElem?_eq_some_iff.1 hj).1
    simp only [List.flatten_cons, Nat.zero_mul, Nat.zero_add]
    rw [List.getElem?_append_left this]; exact hj
  | r :: rs, i + 1, j, row, d, hr, h, hj => by
    have hl := hr r (by simp)
    simp only [List.flatten_cons]
    rw [List.getElem?_append_right (by rw [hl, Nat.add_mul]; omega), hl, show (i + 1) * sz + j - sz = i * sz + j by rw [Nat.add_mul]; omega]
    exact flatten_get (fun r h => hr r (by simp [h])) (by simpa using h) hj

/-- Rows of which some are overwritten. -/
theorem VRows.put {w' : World} {b o sz p : Nat} {rows new : List (List PD)} {c : Array Value} {el : TypeId} {fz : Nat × Nat} {vs : List Value} (hb : w.heap[b]? = some (.cells c el fz))
    (hb' : w'.heap[b]? = some (.cells (c.toList.take (o + p * sz) ++ vs ++ c.toList.drop (o + p * sz + vs.length)).toArray el fz)) (hI : ∀ b, I b → w'.heap[b]? = w.heap[b]?)
    (hr : VRows I w b o sz rows) (hn : ∀ r ∈ new, r.length = sz) (hv : VRels I w new.flatten vs) (hc : Cellish vs) (hl : vs.length = new.length * sz)
    (hp : p ≤ rows.length) (hs : o + p * sz + vs.length ≤ c.size) : VRows I w' b o sz (rows.take p ++ new ++ rows.drop (p + new.length)) := by
  refine VRows.of_cells hb' sz _ o fun i row hi => ?_
  have key : ∀ k, (c.toList.take (o + p * sz) ++ vs ++ c.toList.drop (o + p * sz + vs.length)).toArray[k]? = if o + p * sz ≤ k ∧ k < o + p * sz + vs.length then vs[k - (o + p * sz)]? else c[k]? := by
    intro k
    rw [List.getElem?_toArray, spliced_get (by simpa using hs)]
    simp
  have lp : (rows.take p).length = p := by simp; omega
  have old : ∀ i', rows[i']? = some row → (i' < p ∨ p + new.length ≤ i') → i' = i → row.length = sz ∧ ∀ j d, row[j]? = some d →
      ∃ x, (c.toList.take (o + p * sz) ++ vs ++ c.toList.drop (o + p * sz + vs.length)).toArray[o + i * sz + j]? = some x ∧ cellish x = true ∧ VRel I w' d x := by
    rintro i' hi' hlt rfl
    obtain ⟨q1, q2⟩ := VRows.get hr hi'
    refine ⟨q1, fun j d hj => ?_⟩
    obtain ⟨x, hx, hxc, hxr⟩ := q2.get hj
    have hjs : j < sz := by rw [← q1]; exact (List.getElem?_eq_some_iff.1 hj).1
    refine ⟨x, ?_, hxc, VRel.mono (fun _ k => k) hI _ _ hxr⟩
    rw [key, if_neg, ← cellAt_cells hb]
    · exact hx
    · rw [hl]
      rintro ⟨g1, g2⟩
      rcases hlt with hlt | hlt
      · have : (i' + 1) * sz ≤ p * sz := Nat.mul_le_mul_right _ hlt
        rw [Nat.add_mul] at this; omega
      · have : (p + new.length) * sz ≤ i' * sz := Nat.mul_le_mul_right _ hlt
        rw [Nat.add_mul] at this; omega
  by_cases h1 : i < p
  · rw [List.append_assoc, List.getElem?_append_left (by omega), List.getElem?_take_of_lt h1] at hi
    exact old i hi (.inl h1) rfl
  · by_cases h2 : i < p + new.length
    · rw [List.getElem?_append_left (by simp; omega), List.getElem?_append_right (by omega), lp] at hi
      refine ⟨hn row (List.mem_of_getElem? hi), fun j d hj => ?_⟩
      have hfl := flatten_get hn hi hj
      obtain ⟨x, hx, hxr⟩ := VRels.get hv hfl
      have hjs : j < sz := by rw [← hn row (List.mem_of_getElem? hi)]; exact (List.getElem?_eq_some_iff.1 hj).1
      have e1 : o + i * sz + j = o + p * sz + ((i - p) * sz + j) := by
        have : i * sz = p * sz + (i - p) * sz := by rw [← Nat.add_mul]; congr 1; omega
        omega
      have hlt : (i - p) * sz + j < vs.length := (List.getElem?_eq_some_iff.1 hx).1
      refine ⟨x, ?_, hc x (List.mem_of_getElem? hx), VRel.mono (fun _ k => k) hI _ _ hxr⟩
      rw [key, if_pos ⟨by omega, by omega⟩, e1, Nat.add_sub_cancel_left]; exact hx
    · have lt : (rows.take p ++ new).length = p + new.length := by simp; omega
      rw [List.getElem?_append_right (by omega), lt, List.getElem?_drop] at hi
      exact old _ hi (.inr (by omega)) (by omega)

theorem AV.ok_any : ∀ v : AV, v.ok (fun _ => True) := by
  intro v
  exact AV.rec (motive_1 := fun v => v.ok (fun _ => True)) (motive_2 := fun vs => AV.oks (fun _ => True) vs)
    (by simp [AV.ok]) (by simp [AV.ok]) (by simp [AV.ok]) (fun cs ih => by simpa only [AV.ok] using ih) (fun cs ih => by simpa only [AV.ok] using ih) (by simp [AV.ok]) (by simp [AV.ok]) (by simp [AV.ok])
    (fun fn a b iha ihb => by simp only [AV.ok]; exact ⟨iha, ihb⟩) (fun t v ih => by simpa only [AV.ok] using ih) (by simp [AV.oks]) (fun v vs ih ihs => by simp only [AV.oks]; exact ⟨ih, ihs⟩) v
theorem AV.oks_any (vs : List AV) : AV.oks (fun _ => True) vs := AV.oks_iff.2 fun v _ => AV.ok_any v

theorem ARels.world {cs : List AV} {xs : List Value} {w' : World} (hI : ∀ b, I b → w'.heap[b]? = w.heap[b]?) (h : ARels I w ρ cs xs) : ARels I w' ρ cs xs :=
  ARels.mono (D := fun _ => True) (fun _ k => k) hI (fun _ _ => .inl rfl) _ _ (AV.oks_any cs) h

theorem storeA_step (h : SCore C I ρ st a w) {t : TypeId} {x v : AV} {x' v' : Value} {blk' : Blk} (hs : storeA C.P st.blk t x v = some blk') (hx : ARel I w ρ x x') (hv : ARel I w ρ v v')
    (hok : v.ok (dom st.blk)) : ∃ w', (Instr.storeAt t x' v').run C.P w = .ok () w' ∧ SCore C I ρ ⟨st.env, blk'⟩ a w' := by
  simp only [storeA, Option.bind_eq_some_iff] at hs
  obtain ⟨i, ht, new, hn, hs⟩ := hs
  split at hs
  case isFalse => cases hs
  rename_i hlen
  obtain ⟨hce, hnr⟩ := avCells_rel hn hv
  have hnl : v'.cells.toList.length = i.size := by rw [hnr.length, hlen]
  have hrun : ∀ (b o : Nat) (c : Array Value) (el : TypeId) (fz : Nat × Nat), w.heap[b]? = some (.cells c el fz) → Unfrozen c.size fz → o + i.size ≤ c.size →
      (Instr.storeAt t (.pointer (some ⟨b, o, none⟩)) v').run C.P w = .ok () (World.put w b (c.toList.take o ++ v'.cells.toList ++ c.toList.drop (o + v'.cells.toList.length)).toArray el fz) := by
    intro b o c el fz hb hu ho
    unfold Instr.storeAt Instr.sureAddr
    rw [run_bind_ok (a := (⟨b, o, none⟩ : Addr)) (w' := w) rfl]
    unfold storeVar
    rw [run_bind_ok (run_sizeOf ht w), if_neg (by rw [← Array.length_toList, hnl]; simp)]
    have := run_storeCells (P := C.P) (o := o) v'.cells.toList 0 w c hb hu hce (by omega)
    rw [Nat.add_zero] at this
    exact this
  split at hs
  · rename_i r off
    split at hs
    · rename_i cs hb
      simp only [Option.map_eq_some_iff] at hs
      obtain ⟨cs', hsp, rfl⟩ := hs
      obtain ⟨b, ct, sz, c, el, fz, h1, h2, h3, h4, h5, h6⟩ := h.heap.rel r _ hb
      simp only [ARel] at hx; obtain ⟨ad, rfl, hx⟩ := hx
      have hx := hx _ _ _ _ h1; subst hx
      have hbd := (splice_some hsp).1
      have hcl := h6.length
      rw [Array.length_toList] at hcl
      rw [Nat.zero_add]
      refine ⟨_, hrun b off c el fz h2 h4 (by omega), ?_⟩
      refine h.change (fun y => y = r) ?_ (by rw [put_size]; exact Nat.le_refl _) rfl rfl rfl (fun y hy => upd_ne _ _ hy) (fun _ _ => rfl) ?_ ?_ ?_ (fun _ _ _ => .inl rfl) dom_upd
      · intro b' _ hn'
        refine put_other ?_
        rintro rfl
        exact hn' ⟨r, _, _, _, _, rfl, hb, rfl, h1⟩
      · rintro y B rfl hB
        rw [upd_same] at hB; cases hB
        refine ⟨⟨b, ct, sz, _, el, fz, h1, put_same (lt_of_cells h2), h3, ?_, ?_, ?_⟩, ?_⟩
        · simp only [List.size_toArray]; rw [spliced_length (by simp; simp at hnl; omega)]; simpa using h4
        · simpa using ((h5.take _).append hce).append (h5.drop _)
        · have := h6.splice hnr hsp
          exact ARels.world (fun b' hb' => put_other (by rintro rfl; exact h3 hb')) this
        · rw [(splice_some hsp).2]
          have o1 : AV.oks (dom st.blk) cs := h.heap.ok _ _ hb
          exact AV.oks.mono dom_upd _ (AV.oks_append (AV.oks_append (AV.oks_take _ o1) (avCells_ok hn hok)) (AV.oks_drop _ o1))
      · rintro y B b' o' ct' sz' rfl _ _ hp; right; exact ⟨y, _, _, _, _, rfl, hb, rfl, hp⟩
      · rintro y z B B' b' o1 ct1 sz1 o2 ct2 sz2 rfl rfl _ _ _ _ _ _; rfl
    · cases hs
  · rename_i r row off
    split at hs
    · rename_i sz rows hb
      simp only [Option.bind_eq_some_iff, Option.map_eq_some_iff] at hs
      obtain ⟨ds, hds, cs, hrow, cs', hsp, rfl⟩ := hs
      rcases h.heap.rel r _ hb with ⟨h1, _⟩ | ⟨b, o, ct, c, el, fz, h1, h2, h3, h4, h5, h6, h7, h8⟩
      · subst h1; simp at hrow
      simp only [ARel] at hx; obtain ⟨ad, rfl, hx⟩ := hx
      have hx := hx _ _ _ _ h1; subst hx
      obtain ⟨hbd, hcs'⟩ := splice_some hsp
      obtain ⟨q1, q2⟩ := VRows.get h5 hrow
      have hdl : ds.length = i.size := by rw [mapM_length hds, hlen]
      have hrl : row < rows.length := (List.getElem?_eq_some_iff.1 hrow).1
      have hmul : (row + 1) * sz ≤ ct * sz := Nat.mul_le_mul_right _ (by omega)
      rw [Nat.add_mul] at hmul
      have hdr : VRels I w ds v'.cells.toList := ARels.of_mapM (fun v d x hv hx => view_rel h.heap.rel (fun _ h => h) (fun h => by cases h) 8 v d x hv hx) _ _ _ hds hnr
      refine ⟨_, hrun b (o + row * sz + off) c el fz h2 h4 (by omega), ?_⟩
      have hb' := put_same (w := w) (c := (c.toList.take (o + row * sz + off) ++ v'.cells.toList ++ c.toList.drop (o + row * sz + off + v'.cells.toList.length)).toArray) (el := el) (fz := fz) (lt_of_cells h2)
      refine h.change (fun y => y = r) ?_ (by rw [put_size]; exact Nat.le_refl _) rfl rfl rfl (fun y hy => upd_ne _ _ hy) (fun _ _ => rfl) ?_ ?_ ?_ (fun _ _ _ => .inl rfl) dom_upd
      · intro b' _ hn'
        refine put_other ?_
        rintro rfl
        exact hn' ⟨r, _, _, _, _, rfl, hb, rfl, h1⟩
      · rintro y B rfl hB
        rw [upd_same] at hB; cases hB
        refine ⟨.inr ⟨b, o, ct, _, el, fz, h1, hb', h3, ?_, ?_, by simpa using h6, h7, ?_⟩, trivial⟩
        · simp only [List.size_toArray]; rw [spliced_length (by have hq1 := Array.length_toList (xs := c); have hq2 := Array.length_toList (xs := v'.cells); omega)]; simpa using h4
        · refine VRows.of_cells hb' sz _ o fun k row' hk => ?_
          have key : ∀ q, (c.toList.take (o + row * sz + off) ++ v'.cells.toList ++ c.toList.drop (o + row * sz + off + v'.cells.toList.length)).toArray[q]? =
              if o + row * sz + off ≤ q ∧ q < o + row * sz + off + i.size then v'.cells.toList[q - (o + row * sz + off)]? else c[q]? := by
            intro q
            rw [List.getElem?_toArray, spliced_get (by have hq1 := Array.length_toList (xs := c); have hq2 := Array.length_toList (xs := v'.cells); omega), hnl]
            simp
          have hI' : ∀ b', I b' → (World.put w b (c.toList.take (o + row * sz + off) ++ v'.cells.toList ++ c.toList.drop (o + row * sz + off + v'.cells.toList.length)).toArray el fz).heap[b']? = w.heap[b']? :=
            fun b' hb2 => put_other (by rintro rfl; exact h3 hb2)
          by_cases hkr : k = row
          · subst hkr
            have : row' = cs' := by rw [List.getElem?_set_self hrl] at hk; exact (Option.some.inj hk).symm
            subst this
            refine ⟨by rw [hcs', spliced_length hbd, q1], fun j d hj => ?_⟩
            rw [hcs', spliced_get hbd, hdl] at hj
            by_cases hin : off ≤ j ∧ j < off + i.size
            · rw [if_pos hin] at hj
              obtain ⟨x, hx, hxr⟩ := VRels.get hdr hj
              refine ⟨x, ?_, hce x (List.mem_of_getElem? hx), VRel.mono (fun _ k => k) hI' _ _ hxr⟩
              rw [key, if_pos ⟨by omega, by omega⟩, show o + k * sz + j - (o + k * sz + off) = j - off by omega]; exact hx
            · rw [if_neg hin] at hj
              obtain ⟨x, hx, hxc, hxr⟩ := q2.get hj
              refine ⟨x, ?_, hxc, VRel.mono (fun _ k => k) hI' _ _ hxr⟩
              rw [key, if_neg (by omega), ← cellAt_cells h2]; exact hx
          · rw [List.getElem?_set_ne (Ne.symm hkr)] at hk
            obtain ⟨p1, p2⟩ := VRows.get h5 hk
            refine ⟨p1, fun j d hj => ?_⟩
            obtain ⟨x, hx, hxc, hxr⟩ := p2.get hj
            have hjs : j < sz := by rw [← p1]; exact (List.getElem?_eq_some_iff.1 hj).1
            refine ⟨x, ?_, hxc, VRel.mono (fun _ k => k) hI' _ _ hxr⟩
            rw [key, if_neg, ← cellAt_cells h2]
            · exact hx
            · rintro ⟨g1, g2⟩
              rcases Nat.lt_or_gt_of_ne hkr with hlt | hlt
              · have : (k + 1) * sz ≤ row * sz := Nat.mul_le_mul_right _ hlt
                rw [Nat.add_mul] at this; omega
              · have : (row + 1) * sz ≤ k * sz := Nat.mul_le_mul_right _ hlt
                rw [Nat.add_mul] at this; omega
        · simp only [List.size_toArray]; rw [spliced_length (by have hq1 := Array.length_toList (xs := c); have hq2 := Array.length_toList (xs := v'.cells); omega)]; simpa using h8
      · rintro y B b' o' ct' sz' rfl _ _ hp; right; exact ⟨y, _, _, _, _, rfl, hb, rfl, hp⟩
      · rintro y z B B' b' o1 ct1 sz1 o2 ct2 sz2 rfl rfl _ _ _ _ _ _; rfl
    · cases hs
  · cases hs
end
end Go.Abs

/- What is appended or copied. -/
namespace Go.Abs
open Go.RowKit

section
variable {C : Ctx} {I : Nat → Prop} {ρ : Ref → Pl} {st : St} {a : Act} {w : World} {P : Program}

theorem VRels.take : ∀ {ds : List PD} {xs : List Value} (n : Nat), VRels I w ds xs → VRels I w (ds.take n) (xs.take n) := by
  intro ds xs n h
  have := (ARels.pd (ρ := fun _ => .gone).2 h).take n
  rw [← List.map_take] at this
  exact ARels.pd.1 this

theorem VRows.lengths : ∀ {rows : List (List PD)} {b off sz : Nat}, VRows I w b off sz rows → ∀ r ∈ rows, r.length = sz
  | [], _, _, _, _ => by simp
  | r :: rs, b, off, sz, h => by
    simp only [VRows] at h
    intro q hq
    rcases List.mem_cons.1 hq with rfl | hq
    · exact h.1
    · exact VRows.lengths h.2.2 q hq

structure Src (P : Program) (I : Nat → Prop) (w : World) (size : Nat) (rows : List (List PD)) (x' : Value) : Prop where
  len : (Builtin.lenOf x').run P w = .ok rows.length w
  cells : ∀ n, n ≤ rows.length → ∃ vs, (Builtin.firstCells size n x').run P w = .ok vs.toArray w ∧ Cellish vs ∧ VRels I w (rows.take n).flatten vs ∧ vs.length = n * size

theorem src_of_rows {size : Nat} {rows : List (List PD)} {a : Option Addr} {cap : Nat} (hall : ∀ r ∈ rows, r.length = size)
    (h : rows = [] ∨ ∃ b off sz, a = some ⟨b, off, none⟩ ∧ VRows I w b off sz rows) : Src P I w size rows (.slice a rows.length cap) := by
  refine ⟨rfl, fun n hn => ?_⟩
  by_cases hr : rows = []
  · subst hr
    have : n = 0 := by simpa using hn
    subst this
    refine ⟨[], ?_, by simp [Cellish], by simp [VRels], by simp⟩
    cases a with
    | none => rfl
    | some ad => simp [Builtin.firstCells, loadCells, loadCellsFrom]
  · rcases h with h | ⟨b, off, sz, rfl, h⟩
    · exact absurd h hr
    · have hsz : sz = size := by
        cases rows with
        | nil => exact absurd rfl hr
        | cons r rs => rw [← h.lengths r (by simp)]; exact hall r (by simp)
      subst hsz
      obtain ⟨vs, h1, h2, h3, h4⟩ := (h.take n).values
      have hl : (rows.take n).length = n := by simp; omega
      rw [hl] at h3
      refine ⟨vs, ?_, h1, h2, h3⟩
      have := run_loadCells_list (P := P) w ⟨b, off, none⟩ vs (fun j v hj => by rw [addr_add]; exact h4 j v hj)
      rw [h3] at this
      exact this

theorem srcA_src {blk : Blk} (H : HRel I ρ w blk) {x : AV} {rows : List (List PD)} {x' : Value} {size : Nat} (h : srcA blk x = some rows) (hall : ∀ r ∈ rows, r.length = size) (hx : ARel I w ρ x x') :
    Src P I w size rows x' := by
  unfold srcA at h
  split at h
  · cases h; simp only [ARel] at hx; subst hx; exact src_of_rows hall (.inl rfl)
  · cases h; simp only [ARel, VRel] at hx; obtain ⟨a, cap, rfl, _, _, hx⟩ := hx
    refine src_of_rows hall (hx.imp id ?_)
    rintro ⟨b, off, sz, e, _, hr⟩; exact ⟨b, off, sz, e, hr⟩
  · rename_i s
    cases h; have hx := rel_val.1 hx; subst hx
    have hsz : s.data.toList.length = s.size := by rw [Array.length_toList]; rfl
    refine ⟨?_, fun n hn => ?_⟩
    · rw [List.length_map, hsz]; rfl
    have hn' : n ≤ s.data.toList.length := by rw [List.length_map] at hn; exact hn
    refine ⟨(s.data.toList.take n).map fun b => .int .u8 b.toNat, ?_, ?_, ?_, ?_⟩
    · have : ((s.extract 0 n).data.map fun b : UInt8 => Value.int .u8 b.toNat) = ((s.data.toList.take n).map fun b : UInt8 => Value.int .u8 b.toNat).toArray := by
        apply Array.ext'
        simp [ByteArray.data_extract]
      simp only [Builtin.firstCells]
      rw [this]; rfl
    · intro v hv; obtain ⟨b, _, rfl⟩ := List.mem_map.1 hv; rfl
    · rw [← List.map_take]
      generalize s.data.toList.take n = l
      induction l with
      | nil => simp [VRels]
      | cons b l ih => simp only [List.map_cons, List.flatten_cons, List.cons_append, List.nil_append, VRels, VRel]; exact ⟨_, _, rfl, rfl, ih⟩
    · simp only [List.length_map, List.length_take]
      cases hd : s.data.toList with
      | nil => rw [hd] at hn'; simp at hn'; subst hn'; simp
      | cons b l =>
        have := hall [.val (.int .u8 b.toNat)] (by rw [hd]; simp)
        have h1 : 1 = size := by simpa using this
        rw [← h1, ← hd]; omega
  · rename_i r sz off len
    simp only [ARel] at hx; obtain ⟨a, cap, rfl, hlc, hn, hnil, hx⟩ := hx
    split at h
    · rename_i sz' rows0 hb
      obtain ⟨hl, rfl⟩ := window_some h
      have hlen : ((rows0.drop off).take len).length = len := by simp; omega
      have key := src_of_rows (P := P) (I := I) (w := w) (size := size) (rows := (rows0.drop off).take len) (a := a) (cap := cap) hall ?_
      · rwa [hlen] at key
      · rcases H.rel r _ hb with ⟨h1, _⟩ | ⟨b, o, ct, c, el, fz, h1, h2, h3, h4, h5, h6⟩
        · subst h1; left; simp
        · obtain ⟨e0, e1, e2, _, e3⟩ := hx _ _ _ _ h1
          by_cases hz : len = 0
          · left; simp [hz]
          · right; exact ⟨b, o + off * sz, sz, e3 (by omega), by rw [e0] at h5; exact (h5.drop off).take len⟩
    · rename_i sz' rows0 hb
      obtain ⟨hl, rfl⟩ := window_some h
      have hlen : ((rows0.drop off).take len).length = len := by simp; omega
      have key := src_of_rows (P := P) (I := I) (w := w) (size := size) (rows := (rows0.drop off).take len) (a := a) (cap := cap) hall ?_
      · rwa [hlen] at key
      · rcases H.rel r _ hb with ⟨h1, _⟩ | ⟨b, o, ct, h1, h2, h3, h4, h5⟩
        · subst h1; left; simp
        · obtain ⟨e0, e1, e2, _, e3⟩ := hx _ _ _ _ h1
          by_cases hz : len = 0
          · left; simp [hz]
          · right; exact ⟨b, o + off * sz, sz, e3 (by omega), by rw [e0] at h3; exact (h3.drop off).take len⟩
    · cases h
  · cases h

theorem growBy_le : ∀ (r c need m : Nat), c ≤ need + (need + 768) / 4 → need + (need + 768) / 4 ≤ m → Builtin.growBy need r c ≤ m
  | 0, c, need, m, h1, h2 => by simp only [Builtin.growBy]; omega
  | r + 1, c, need, m, h1, h2 => by
    simp only [Builtin.growBy]
    split
    · omega
    · exact growBy_le r _ need m (by omega) h2

theorem nextcap_le {need old : Nat} (h : old < need) : Builtin.nextslicecap need old ≤ 2 * need + 1000 := by
  unfold Builtin.nextslicecap
  split
  · omega
  · split
    · omega
    · exact growBy_le _ _ _ _ (by omega) (by omega)
end
end Go.Abs

/- append. -/
namespace Go.Abs
open Go.RowKit

section
variable {C : Ctx} {I : Nat → Prop} {ρ : Ref → Pl} {st : St} {a : Act} {w : World} {P : Program}

theorem run_append_in {t0 t1 e : TypeId} {i i1 j : TI} {argTypes : Array TypeId} {args : Array Value} {s' x' : Value} {ty : TypeId} {base : Option Addr} {sLen sCap n : Nat} {vs : List Value} {w' : World}
    (h0 : argTypes[0]? = some t0) (h1 : argTypes[1]? = some t1) (g0 : args[0]? = some s') (g1 : args[1]? = some x') (ht : ti P t0 = some i) (ht1 : ti P t1 = some i1) (hd : i.desc = .slice e)
    (hj : ti P e = some j) (hk : ∀ k, i1.desc ≠ .int k) (hs : s' = .slice base sLen sCap) (hn : (Builtin.lenOf x').run P w = .ok n w)
    (hc : (Builtin.firstCells j.size n x').run P w = .ok vs.toArray w) (hle : sLen + n ≤ sCap)
    (hst : (base = none ∧ w' = w) ∨ ∃ ad, base = some ad ∧ (storeCells (ad.add (sLen * j.size)) vs).run P w = .ok () w') :
    (Builtin.append_ argTypes ty args).run P w = .ok (.slice base (sLen + n) sCap) w' := by
  unfold Builtin.append_
  rw [h0, g0, g1, hs]
  simp only
  rw [run_bind_ok (run_underlying ht w), hd]
  simp only
  rw [run_bind_ok (run_sizeOf hj w), h1]
  simp only
  rw [run_bind_ok (run_underlying ht1 w)]
  generalize hdd : i1.desc = dd at hk ⊢
  have hfalse : ∀ {α : Type} (K : Bool → Sem α), Sem.run P (pure false >>= K) w = Sem.run P (K false) w := fun K => run_bind_ok rfl
  cases dd
  case int k => exact absurd rfl (hk k)
  all_goals
   simp only []
   rw [hfalse]
   simp only [Bool.false_eq_true, if_false, Bool.not_false, if_true, false_or]
   rw [run_bind_ok hn]
   rw [if_pos hle]
   rw [run_bind_ok hc]
   rcases hst with ⟨rfl, rfl⟩ | ⟨ad, rfl, hst⟩
   · rfl
   · simp only
     rw [run_bind_ok hst]; rfl

theorem run_append_out {t0 t1 e : TypeId} {i i1 j : TI} {argTypes : Array TypeId} {args : Array Value} {s' x' : Value} {ty : TypeId} {base : Option Addr} {sLen sCap n : Nat} {vs us : List Value}
    (h0 : argTypes[0]? = some t0) (h1 : argTypes[1]? = some t1) (g0 : args[0]? = some s') (g1 : args[1]? = some x') (ht : ti P t0 = some i) (ht1 : ti P t1 = some i1) (hd : i.desc = .slice e)
    (hj : ti P e = some j) (hk : ∀ k, i1.desc ≠ .int k) (hs : s' = .slice base sLen sCap) (hn : (Builtin.lenOf x').run P w = .ok n w)
    (hc : (Builtin.firstCells j.size n x').run P { w with drawn := w.drawn + 1 } = .ok vs.toArray { w with drawn := w.drawn + 1 })
    (ho : (Builtin.firstCells j.size sLen s').run P { w with drawn := w.drawn + 1 } = .ok us.toArray { w with drawn := w.drawn + 1 })
    (hgt : sCap < sLen + n) (hb : (sLen + n) * (j.bytes + 1) ≤ 2 ^ 40) (hb2 : j.bytes ≤ 2 ^ 20) :
    ∃ newCap rest, sLen + n ≤ newCap ∧ newCap ≤ maxLen ∧ rest.size = (newCap - (sLen + n)) * j.zero.length ∧ (Builtin.append_ argTypes ty args).run P w =
      .ok (.slice (some ⟨w.heap.size, 0, none⟩) (sLen + n) newCap) { w with drawn := w.drawn + 1, heap := w.heap.push (.cells (us.toArray ++ vs.toArray ++ rest) e) } := by
  unfold Builtin.append_
  rw [h0, g0, g1, hs]
  simp only
  rw [run_bind_ok (run_underlying ht w), hd]
  simp only
  rw [run_bind_ok (run_sizeOf hj w), h1]
  simp only
  rw [run_bind_ok (run_underlying ht1 w)]
  generalize hdd : i1.desc = dd at hk ⊢
  have hfalse : ∀ {α : Type} (K : Bool → Sem α), Sem.run P (pure false >>= K) w = Sem.run P (K false) w := fun K => run_bind_ok rfl
  cases dd
  case int k => exact absurd rfl (hk k)
  all_goals
   simp only []
   rw [hfalse]
   simp only [Bool.false_eq_true, if_false, Bool.not_false, if_true, false_or]
   rw [run_bind_ok hn]
   rw [if_neg (by omega : ¬ sLen + n ≤ sCap)]
   obtain ⟨info, z, q1, q2, q3, q4, hrun⟩ := run_typeInfo hj
   obtain ⟨z', hz', hzr⟩ := run_zeroValue hj
   have hneed : sLen + n ≤ 2 ^ 40 := by rw [Nat.mul_add] at hb; omega
   have hnb : (sLen + n) * j.bytes ≤ 2 ^ 40 := by rw [Nat.mul_add] at hb; omega
   rw [run_bind_ok (hrun w), if_neg (by simp only [IntKind.max_i64]; omega)]
   rw [run_bind_ok (hrun w)]
   have hcap : Builtin.nextslicecap (sLen + n) sCap * info.bytes ≤ 2 ^ 48 := by
     rw [q4]
     calc Builtin.nextslicecap (sLen + n) sCap * j.bytes ≤ (2 * (sLen + n) + 1000) * j.bytes := Nat.mul_le_mul_right _ (nextcap_le hgt)
       _ = 2 * ((sLen + n) * j.bytes) + 1000 * j.bytes := by rw [Nat.add_mul, Nat.mul_assoc]
       _ ≤ 2 ^ 48 := by omega
   rw [if_neg (by omega)]
   have hq : (choose (.appendCap (sLen + n) sCap e)).run P w = .ok (Question.cut (.appendCap (sLen + n) sCap e) (w.tape w.drawn (.appendCap (sLen + n) sCap e))) { w with drawn := w.drawn + 1 } := by
     simp [choose, Sem.run, Question.forced]
   rw [run_bind_ok hq, run_bind_ok (hrun _), run_bind_ok (run_askRoom P _ _)]
   subst hs
   rw [run_bind_ok ho, run_bind_ok hc, run_bind_ok (hzr _)]
   have hcut : sLen + n ≤ Question.cut (.appendCap (sLen + n) sCap e) (w.tape w.drawn (.appendCap (sLen + n) sCap e)) ∧
       Question.cut (.appendCap (sLen + n) sCap e) (w.tape w.drawn (.appendCap (sLen + n) sCap e)) ≤ maxLen := by
     simp only [Question.cut, maxLen]
     have : w.tape w.drawn (.appendCap (sLen + n) sCap e) % (2 ^ 63 - (sLen + n)) < 2 ^ 63 - (sLen + n) := Nat.mod_lt _ (by omega)
     omega
   refine ⟨_, Builtin.zeroCells z'.cells (_ - (sLen + n)), hcut.1, hcut.2, ?_, rfl⟩
   rw [← hz']; simp [Builtin.zeroCells]
end
end Go.Abs
