import Derived.Test.YtghdinkgfpfdoaaGreatLc
/- Typed data: what pure data of a known kind read as. -/
namespace Go.Abs
open Go.RowKit

inductive Ty where
  | int (k : IntKind) | bool | str | nat | unit
  | sl (r : Ty) | pair (a b : Ty)
  deriving DecidableEq, Inhabited

abbrev Ty.el : Ty → Type
  | .int _ => Int
  | .bool => Bool
  | .str => List UInt8
  | .nat => Nat
  | .unit => Unit
  | .sl r => List r.el
  | .pair a b => a.el × b.el

def Ty.dflt : (τ : Ty) → τ.el
  | .int _ => (0 : Int)
  | .bool => false
  | .str => []
  | .nat => (0 : Nat)
  | .unit => ()
  | .sl _ => []
  | .pair a b => (a.dflt, b.dflt)

/-- How many cells. -/
def Ty.sz : Ty → Nat
  | .pair a b => a.sz + b.sz
  | .unit => 0
  | .nat => 0
  | _ => 1

def Ty.isLeaf : Ty → Bool
  | .int _ | .bool | .str | .sl _ => true
  | _ => false

/-- The cells. -/
def encC : (τ : Ty) → τ.el → List PD
  | .int k, n => [.val (.int k n)]
  | .bool, b => [.val (.bool b)]
  | .str, s => [.val (.string ⟨s.toArray⟩)]
  | .nat, _ => []
  | .unit, _ => []
  | .sl r, l => [.sl (l.map (encC r))]
  | .pair a b, x => encC a x.1 ++ encC b x.2

/-- A leaf's only cell. -/
def encL : (τ : Ty) → τ.el → PD
  | .int k, n => .val (.int k n)
  | .bool, b => .val (.bool b)
  | .str, s => .val (.string ⟨s.toArray⟩)
  | .sl r, l => .sl (l.map (encC r))
  | _, _ => .val (.bool false)

theorem encC_leaf {τ : Ty} (h : τ.isLeaf = true) (x : τ.el) : encC τ x = [encL τ x] := by
  cases τ <;> simp [Ty.isLeaf] at h <;> rfl

theorem encC_length : ∀ (τ : Ty) (x : τ.el), (encC τ x).length = τ.sz
  | .int _, _ => rfl
  | .bool, _ => rfl
  | .str, _ => rfl
  | .nat, _ => rfl
  | .unit, _ => rfl
  | .sl _, _ => rfl
  | .pair a b, x => by simp only [encC, List.length_append, encC_length a, encC_length b, Ty.sz]

/-- Data of one kind as data of another one, where they are the same. -/
def Ty.cast (a b : Ty) (x : a.el) : Option b.el := match decEq a b with
  | isTrue h => some (h ▸ x)
  | isFalse _ => none

theorem Ty.cast_some {a b : Ty} {x : a.el} {y : b.el} (h : Ty.cast a b x = some y) : ∃ e : a = b, e ▸ x = y := by
  unfold Ty.cast at h
  split at h
  · rename_i e _; cases h; exact ⟨e, rfl⟩
  · cases h
theorem Ty.cast_self {a : Ty} (x : a.el) : Ty.cast a a x = some x := by
  unfold Ty.cast
  split
  · rfl
  · rename_i h _; exact (h rfl).elim

def allOf {α : Type} : Option (α × List PD) → Option α
  | some (x, []) => some x
  | _ => none

/-- Data out of cells. -/
def decC : (τ : Ty) → List PD → Option (τ.el × List PD)
  | .int k => fun ds => match ds with
    | .val (.int k' n) :: l => match decEq k' k with
      | isTrue _ => some (n, l)
      | isFalse _ => none
    | _ => none
  | .bool => fun ds => match ds with
    | .val (.bool b) :: l => some (b, l)
    | _ => none
  | .str => fun ds => match ds with
    | .val (.string s) :: l => some (s.data.toList, l)
    | _ => none
  | .nat => fun _ => none
  | .unit => fun l => some ((), l)
  | .sl r => fun ds => match ds with
    | .sl rows :: l => match rows.mapM (fun row => allOf (decC r row)) with
      | some xs => some (xs, l)
      | none => none
    | .val (.slice none 0 0) :: l => some ([], l)
    | _ => none
  | .pair a b => fun l => match decC a l with
    | some (x, l) => match decC b l with
      | some (y, l) => some ((x, y), l)
      | none => none
    | none => none

/-- Kinds that data have. -/
def Ty.ok : Ty → Bool
  | .nat => false
  | .sl r => r.ok
  | .pair a b => a.ok && b.ok
  | _ => true

theorem mapM_some_map {β γ : Type} {f : β → Option γ} {g : γ → β} (h : ∀ x, f (g x) = some x) : ∀ l : List γ, (l.map g).mapM f = some l
  | [] => rfl
  | x :: l => by rw [List.map_cons, List.mapM_cons, h x, mapM_some_map h l]; rfl

theorem decC_enc : ∀ (τ : Ty), τ.ok = true → ∀ (x : τ.el) (l : List PD), decC τ (encC τ x ++ l) = some (x, l)
  | .int k, _, n, l => by
    simp only [encC, List.cons_append, List.nil_append, decC]
    split
    · rfl
    · rename_i h _; exact (h rfl).elim
  | .bool, _, b, l => rfl
  | .str, _, s, l => by simp [encC, decC]
  | .nat, h, _, _ => by simp [Ty.ok] at h
  | .unit, _, _, l => by simp [encC, decC]
  | .sl r, h, xs, l => by
    have ih := decC_enc r (by simpa [Ty.ok] using h)
    have : ∀ x, (fun row => allOf (decC r row)) (encC r x) = some x := by
      intro x
      have := ih x []
      rw [List.append_nil] at this
      simp only [this, allOf]
    simp only [encC, List.cons_append, List.nil_append, decC]
    rw [mapM_some_map (f := fun row => allOf (decC r row)) this xs]
  | .pair a b, h, x, l => by
    simp only [Ty.ok, Bool.and_eq_true] at h
    simp only [encC, List.append_assoc, decC, decC_enc a h.1, decC_enc b h.2]

theorem allOf_some {α : Type} {o : Option (α × List PD)} {x : α} (h : allOf o = some x) : o = some (x, []) := by
  unfold allOf at h; split at h <;> cases h; rfl

theorem mapM_get {α β : Type} {f : α → Option β} : ∀ {l : List α} {r : List β}, l.mapM f = some r → l.length = r.length ∧ ∀ (i : Nat) (a : α), l[i]? = some a → ∃ b, r[i]? = some b ∧ f a = some b
  | [], r, h => by simp at h; subst h; exact ⟨rfl, by simp⟩
  | a :: l, r, h => by
    rw [List.mapM_cons] at h
    simp only [Option.bind_eq_bind, Option.bind_eq_some_iff] at h
    obtain ⟨b, hb, r', hr, e⟩ := h
    cases e
    obtain ⟨h1, h2⟩ := mapM_get hr
    refine ⟨by simp [h1], fun i x hx => ?_⟩
    cases i with
    | zero => simp at hx; subst hx; exact ⟨b, by simp, hb⟩
    | succ i => simp at hx; obtain ⟨y, h3, h4⟩ := h2 i x hx; exact ⟨y, by simpa using h3, h4⟩

theorem decC_length : ∀ (τ : Ty) (ds : List PD) (x : τ.el) (l : List PD), decC τ ds = some (x, l) → ds.length = τ.sz + l.length := by
  intro τ
  induction τ with
  | int k =>
    intro ds x l h
    simp only [decC] at h
    split at h
    · split at h
      · cases h; simp [Ty.sz]; omega
      · cases h
    · cases h
  | bool => intro ds x l h; simp only [decC] at h; split at h <;> cases h; simp [Ty.sz]; omega
  | str => intro ds x l h; simp only [decC] at h; split at h <;> cases h; simp [Ty.sz]; omega
  | nat => intro ds x l h; simp only [decC] at h; cases h
  | unit => intro ds x l h; simp only [decC] at h; cases h; simp [Ty.sz]
  | sl r ih =>
    intro ds x l h
    simp only [decC] at h
    split at h
    · split at h <;> cases h; simp [Ty.sz]; omega
    · cases h; simp [Ty.sz]; omega
    · cases h
  | pair a b iha ihb =>
    intro ds x l h
    simp only [decC] at h
    split at h
    · rename_i x1 l1 h1
      split at h
      · rename_i y l2 h2
        cases h
        have := iha _ _ _ h1
        have := ihb _ _ _ h2
        simp only [Ty.sz]
        omega
      · cases h
    · cases h

theorem VRels.cons {I : Nat → Prop} {w : World} {d : PD} {ds : List PD} {xs : List Value} : VRels I w (d :: ds) xs ↔ ∃ x xs', xs = x :: xs' ∧ VRel I w d x ∧ VRels I w ds xs' := by
  simp only [VRels]

/-- What decodes reads as what it is decoded to. -/
theorem decC_rel : ∀ (τ : Ty) (I : Nat → Prop) (w : World) (ds : List PD) (x : τ.el) (l : List PD), decC τ ds = some (x, l) →
    (∀ xs, VRels I w ds xs → VRels I w (encC τ x ++ l) xs) ∧ (∀ b o, VAt I w b o ds → VAt I w b o (encC τ x ++ l)) := by
  intro τ I w
  have lift : ∀ {d d' : PD} {l : List PD}, (∀ x, VRel I w d x → VRel I w d' x) → (∀ xs, VRels I w (d :: l) xs → VRels I w (d' :: l) xs) ∧ (∀ b o, VAt I w b o (d :: l) → VAt I w b o (d' :: l)) := by
    intro d d' l h
    refine ⟨fun xs hx => ?_, fun b o hx => ?_⟩
    · simp only [VRels] at hx ⊢; obtain ⟨x, xs', e, h1, h2⟩ := hx; exact ⟨x, xs', e, h x h1, h2⟩
    · simp only [VAt] at hx ⊢; obtain ⟨⟨x, h1, h2, h3⟩, h4⟩ := hx; exact ⟨⟨x, h1, h2, h x h3⟩, h4⟩
  induction τ with
  | int k =>
    intro ds x l h
    simp only [decC] at h
    split at h
    · split at h
      · rename_i e _; cases h; cases e; exact lift (fun _ k => k)
      · cases h
    · cases h
  | bool => intro ds x l h; simp only [decC] at h; split at h <;> cases h; exact lift (fun _ k => k)
  | str => intro ds x l h; simp only [decC] at h; split at h <;> cases h; exact lift (fun _ k => by simpa using k)
  | nat => intro ds x l h; simp only [decC] at h; cases h
  | unit => intro ds x l h; simp only [decC] at h; cases h; simp only [encC, List.nil_append]; exact ⟨fun _ k => k, fun _ _ k => k⟩
  | sl r ih =>
    intro ds x l h
    simp only [decC] at h
    split at h
    · rename_i rows l'
      split at h
      · rename_i xs hm
        cases h
        obtain ⟨hl, hg⟩ := mapM_get hm
        have rowsrel : ∀ (rows : List (List PD)) (xs : List r.el) (b off sz : Nat), rows.length = xs.length → (∀ (i : Nat) (a : List PD), rows[i]? = some a → ∃ b, xs[i]? = some b ∧ allOf (decC r a) = some b) → VRows I w b off sz rows → VRows I w b off sz (xs.map (encC r)) := by
          intro rows
          induction rows with
          | nil => intro xs b off sz hl _ _; cases xs <;> simp_all [VRows]
          | cons row rows ih2 =>
            intro xs b off sz hl hg hv
            cases xs with
            | nil => simp at hl
            | cons x xs =>
              simp only [VRows, List.map_cons] at hv ⊢
              obtain ⟨h1, h2, h3⟩ := hv
              obtain ⟨y, hy, hd⟩ := hg 0 row (by simp)
              simp at hy; subst hy
              have hd := allOf_some hd
              have hlen := decC_length r row x [] hd
              have hat := (ih row x [] hd).2 b off h2
              rw [List.append_nil] at hat
              refine ⟨by rw [encC_length]; simp at hlen; omega, hat, ih2 xs b (off + sz) sz (by simpa using hl) (fun i a ha => ?_) h3⟩
              obtain ⟨b', hb', hd'⟩ := hg (i + 1) a (by simpa using ha)
              exact ⟨b', by simpa using hb', hd'⟩
        refine lift (fun v hv => ?_)
        simp only [VRel] at hv ⊢
        obtain ⟨a, cap, e, h1, h2, h3⟩ := hv
        refine ⟨a, cap, by rw [e]; simp [hl], by simpa [← hl] using h1, h2, ?_⟩
        rcases h3 with h3 | ⟨b, off, sz, ha, hb, hr⟩
        · subst h3; left; have := List.eq_nil_of_length_eq_zero hl.symm; rw [this]; rfl
        · exact .inr ⟨b, off, sz, ha, hb, rowsrel rows _ b off sz hl hg hr⟩
      · cases h
    · cases h
      refine lift (fun v hv => ?_)
      simp only [VRel] at hv ⊢
      subst hv
      exact ⟨none, 0, rfl, Nat.le_refl _, Nat.zero_le _, .inl rfl⟩
    · cases h
  | pair a b iha ihb =>
    intro ds x l h
    simp only [decC] at h
    split at h
    · rename_i x1 l1 h1
      split at h
      · rename_i y l2 h2
        cases h
        have k1 := iha _ _ _ h1
        have k2 := ihb _ _ _ h2
        simp only [encC, List.append_assoc]
        have app : ∀ (cs ds es : List PD), ((∀ xs, VRels I w ds xs → VRels I w es xs) → ∀ xs, VRels I w (cs ++ ds) xs → VRels I w (cs ++ es) xs) ∧ ((∀ b o, VAt I w b o ds → VAt I w b o es) → ∀ b o, VAt I w b o (cs ++ ds) → VAt I w b o (cs ++ es)) := by
          intro cs ds es
          induction cs with
          | nil => exact ⟨fun h => h, fun h => h⟩
          | cons c cs ihc =>
            refine ⟨fun h xs hx => ?_, fun h b o hx => ?_⟩
            · simp only [List.cons_append, VRels] at hx ⊢
              obtain ⟨x, xs', e, p, q⟩ := hx
              exact ⟨x, xs', e, p, ihc.1 h xs' q⟩
            · simp only [List.cons_append, VAt] at hx ⊢
              exact ⟨hx.1, ihc.2 h b (o + 1) hx.2⟩
        exact ⟨fun xs hx => (app _ _ _).1 k2.1 xs (k1.1 xs hx), fun b o hx => (app _ _ _).2 k2.2 b o (k1.2 b o hx)⟩
      · cases h
    · cases h
/-- The rows of a slice that decode. -/
theorem decRows_rel {r : Ty} {I : Nat → Prop} {w : World} : ∀ {rows : List (List PD)} {xs : List r.el} {b off sz : Nat}, rows.mapM (fun row => allOf (decC r row)) = some xs → VRows I w b off sz rows → VRows I w b off sz (xs.map (encC r))
  | [], xs, b, off, sz, h, _ => by simp at h; subst h; simp [VRows]
  | row :: rows, xs, b, off, sz, h, hv => by
    rw [List.mapM_cons] at h
    simp only [Option.bind_eq_bind, Option.bind_eq_some_iff] at h
    obtain ⟨x, hx, xs', hxs, e⟩ := h
    cases e
    simp only [VRows, List.map_cons] at hv ⊢
    obtain ⟨h1, h2, h3⟩ := hv
    have hd := allOf_some hx
    have hlen := decC_length r row x [] hd
    have hat := (decC_rel r I w row x [] hd).2 b off h2
    rw [List.append_nil] at hat
    exact ⟨by rw [encC_length]; simp at hlen; omega, hat, decRows_rel hxs h3⟩
end Go.Abs

/- Values of the run whose shape is known and whose data are open. -/
namespace Go.Abs
open Go.RowKit

abbrev Dyn := (τ : Ty) × τ.el

inductive TV where
  | und
  | raw (v : Value)
  | nil
  | dat (τ : Ty) (x : τ.el)
  | sdat (τ : Ty) (x : τ.el)
  | tupd (ds : List (Bool × Dyn))
  | agg (cs : List TV)
  | tup (vs : List TV)
  | ptr (r : Ref) (off : Nat)
  | eptr (r : Ref) (row off : Nat)
  | epd (τ : Ty) (x : τ.el) (off : Nat)
  | slw (r : Ref) (sz len : Nat)
  | sl (r : Ref) (sz off len : Nat)
  | clo (fn : Fn) (first captured : List TV)
  | iface (t : TypeId) (v : TV)
  deriving Inhabited

def resPD : Bool × Dyn → PD
  | (true, ⟨τ, x⟩) => .agg (encC τ x)
  | (false, ⟨τ, x⟩) => encL τ x

mutual
def TV.den : TV → AV
  | .und => .und
  | .raw v => .pd (.val v)
  | .nil => .nil
  | .dat τ x => .pd (encL τ x)
  | .sdat τ x => .pd (.agg (encC τ x))
  | .tupd ds => .pd (.tup (ds.map resPD))
  | .agg cs => .agg (TV.dens cs)
  | .tup vs => .tup (TV.dens vs)
  | .ptr r o => .ptr r o
  | .eptr r i o => .eptr r i o
  | .epd τ x o => .pd (.ptr (encC τ x) o)
  | .slw r sz n => .sl r sz 0 n
  | .sl r sz o n => .sl r sz o n
  | .clo f a b => .clo f (TV.dens a) (TV.dens b)
  | .iface t v => .iface t v.den
def TV.dens : List TV → List AV
  | [] => []
  | v :: vs => v.den :: TV.dens vs
end
theorem TV.dens_eq : ∀ vs : List TV, TV.dens vs = vs.map TV.den
  | [] => by simp only [TV.dens, List.map_nil]
  | v :: vs => by simp only [TV.dens, List.map_cons, TV.dens_eq vs]

inductive TB where
  | vars (cs : List TV)
  | arr (τ : Ty) (rows : List τ.el)
  | fro (τ : Ty) (rows : List τ.el)
  | dead
  deriving Inhabited

def TB.den : TB → Block
  | .vars cs => .vars (TV.dens cs)
  | .arr τ rows => .arr τ.sz (rows.map (encC τ))
  | .fro τ rows => .fro τ.sz (rows.map (encC τ))
  | .dead => .dead

abbrev TBlk := Ref → Option TB
structure TSt where
  env : Nat → TV
  blk : TBlk

def denB (blk : TBlk) : Blk := fun r => (blk r).map TB.den
def denE (env : Nat → TV) : Nat → AV := fun t => (env t).den
def TSt.den (st : TSt) : St := ⟨denE st.env, denB st.blk⟩

theorem denB_upd (blk : TBlk) (r : Ref) (B : TB) : denB (upd blk r (some B)) = upd (denB blk) r (some B.den) := by
  funext x; unfold denB upd; split <;> rfl
theorem denE_upd (env : Nat → TV) (t : Nat) (v : TV) : denE (upd env t v) = upd (denE env) t v.den := by
  funext x; unfold denE upd; split <;> rfl
theorem denB_none {blk : TBlk} {r : Ref} : denB blk r = none ↔ blk r = none := by unfold denB; simp

/-! ### Whole slices know how long they are. -/
mutual
def okV (L : Ref → Nat → Prop) : TV → Prop
  | .agg cs => okVs L cs
  | .tup cs => okVs L cs
  | .slw r _ n => L r n
  | .clo _ a b => okVs L a ∧ okVs L b
  | .iface _ v => okV L v
  | _ => True
def okVs (L : Ref → Nat → Prop) : List TV → Prop
  | [] => True
  | v :: vs => okV L v ∧ okVs L vs
end
theorem okVs_iff {L : Ref → Nat → Prop} : ∀ {vs : List TV}, okVs L vs ↔ ∀ v ∈ vs, okV L v
  | [] => by simp [okVs]
  | v :: vs => by simp [okVs, okVs_iff (vs := vs)]
mutual
theorem okV.mono {L L' : Ref → Nat → Prop} (h : ∀ r n, L r n → L' r n) : ∀ v : TV, okV L v → okV L' v
  | .und, _ => by simp only [okV]
  | .raw _, _ => by simp only [okV]
  | .nil, _ => by simp only [okV]
  | .dat _ _, _ => by simp only [okV]
  | .sdat _ _, _ => by simp only [okV]
  | .tupd _, _ => by simp only [okV]
  | .agg cs, k => by simp only [okV] at k ⊢; exact okVs.mono h cs k
  | .tup cs, k => by simp only [okV] at k ⊢; exact okVs.mono h cs k
  | .ptr _ _, _ => by simp only [okV]
  | .eptr _ _ _, _ => by simp only [okV]
  | .epd _ _ _, _ => by simp only [okV]
  | .slw r _ n, k => by simp only [okV] at k ⊢; exact h r n k
  | .sl _ _ _ _, _ => by simp only [okV]
  | .clo _ a b, k => by simp only [okV] at k ⊢; exact ⟨okVs.mono h a k.1, okVs.mono h b k.2⟩
  | .iface _ v, k => by simp only [okV] at k ⊢; exact okV.mono h v k
theorem okVs.mono {L L' : Ref → Nat → Prop} (h : ∀ r n, L r n → L' r n) : ∀ vs : List TV, okVs L vs → okVs L' vs
  | [], _ => by simp only [okVs]
  | v :: vs, k => by simp only [okVs] at k ⊢; exact ⟨okV.mono h v k.1, okVs.mono h vs k.2⟩
end

def lenOk (blk : TBlk) (r : Ref) (n : Nat) : Prop := (blk r).isSome = true ∧ ∀ τ rows, blk r = some (.arr τ rows) ∨ blk r = some (.fro τ rows) → n = rows.length

structure TSt.Ok (st : TSt) : Prop where
  env : ∀ t, okV (lenOk st.blk) (st.env t)
  blk : ∀ r cs, st.blk r = some (.vars cs) → okVs (lenOk st.blk) cs

/-! ### Constants, operands, cells -/
def ofValT : Value → TV
  | .int k n => .dat (.int k) n
  | .bool b => .dat .bool b
  | .string s => .dat .str s.data.toList
  | .slice none 0 0 => .nil
  | v => .raw v
theorem ofValT_den (v : Value) : (ofValT v).den = ofVal v := by
  unfold ofValT
  split
  · rfl
  · rfl
  · rename_i s; simp only [TV.den, encL]; simp; rfl
  · rfl
  · rename_i h1 h2 h3 h4
    simp only [TV.den]
    unfold ofVal
    split
    · exact (h4 rfl).elim
    · rfl
theorem ofValT_ok (L : Ref → Nat → Prop) (v : Value) : okV L (ofValT v) := by
  unfold ofValT; split <;> simp only [okV]

def nrmT : TV → TV
  | .raw (.slice none 0 0) => .nil
  | v => v
theorem encL_ne_nil (τ : Ty) (x : τ.el) : encL τ x ≠ .val (.slice none 0 0) := by cases τ <;> simp [encL]
theorem nrmT_den (v : TV) : (nrmT v).den = nrm v.den := by
  unfold nrmT
  split
  · rfl
  · rename_i h
    unfold nrm
    split
    · rename_i e
      cases v <;> simp only [TV.den] at e <;> try cases e
      · exact (h rfl).elim
      · rename_i τ x; simp only [AV.pd.injEq] at e; exact (encL_ne_nil τ x e).elim
    · rfl
theorem nrmT_ok {L : Ref → Nat → Prop} {v : TV} (h : okV L v) : okV L (nrmT v) := by
  unfold nrmT; split
  · simp only [okV]
  · exact h

def opndT (env : Nat → TV) : Operand → TV
  | .tmp t => nrmT (env t)
  | .const v => ofValT v
  | .global _ => .und
  | .func f => .clo (.func f) [] []
theorem opndT_den (env : Nat → TV) (o : Operand) : (opndT env o).den = opnd (denE env) o := by
  cases o with
  | tmp t => exact nrmT_den _
  | const v => exact ofValT_den v
  | global _ => rfl
  | func f => rfl
theorem opndT_ok {L : Ref → Nat → Prop} {env : Nat → TV} (h : ∀ t, okV L (env t)) (o : Operand) : okV L (opndT env o) := by
  cases o with
  | tmp t => exact nrmT_ok (h t)
  | const v => exact ofValT_ok L v
  | global _ => simp only [opndT, okV]
  | func f => simp only [opndT, okV, okVs]; exact ⟨trivial, trivial⟩

/-- The cells of data, each by itself. -/
def explode : (τ : Ty) → τ.el → List TV
  | .pair a b, x => explode a x.1 ++ explode b x.2
  | .unit, _ => []
  | .nat, _ => []
  | τ, x => [.dat τ x]
theorem explode_den : ∀ (τ : Ty) (x : τ.el), (explode τ x).map TV.den = (encC τ x).map .pd
  | .pair a b, x => by simp only [explode, encC, List.map_append, explode_den a, explode_den b]
  | .unit, _ => rfl
  | .nat, _ => rfl
  | .int _, _ => rfl
  | .bool, _ => rfl
  | .str, _ => rfl
  | .sl _, _ => rfl
theorem explode_ok (L : Ref → Nat → Prop) : ∀ (τ : Ty) (x : τ.el), ∀ v ∈ explode τ x, okV L v
  | .pair a b, x => by
    intro v hv
    simp only [explode, List.mem_append] at hv
    rcases hv with h | h
    · exact explode_ok L a _ v h
    · exact explode_ok L b _ v h
  | .unit, _ => by simp [explode]
  | .nat, _ => by simp [explode]
  | .int _, _ => by simp [explode, okV]
  | .bool, _ => by simp [explode, okV]
  | .str, _ => by simp [explode, okV]
  | .sl _, _ => by simp [explode, okV]

def avCellsT : TV → Option (List TV)
  | .und | .tup _ | .tupd _ => none
  | .agg cs => some cs
  | .sdat τ x => some (explode τ x)
  | .raw v => if cellish v then some [.raw v] else none
  | v => some [v]
theorem avCellsT_den (v : TV) : avCells v.den = (avCellsT v).map (·.map TV.den) := by
  cases v <;> simp only [TV.den, avCellsT, Option.map_none, Option.map_some] <;> try rfl
  case raw v => simp only [avCells]; split <;> simp [TV.den]
  case dat τ x => cases τ <;> simp [encL, avCells, cellish, TV.den]
  case sdat τ x => simp only [avCells, explode_den]
  case agg cs => simp only [avCells, TV.dens_eq]
  all_goals simp [avCells, TV.den]
theorem avCellsT_ok {L : Ref → Nat → Prop} {v : TV} {cs : List TV} (h : avCellsT v = some cs) (hv : okV L v) : ∀ c ∈ cs, okV L c := by
  cases v <;> simp only [avCellsT, reduceCtorEq, Option.some.injEq] at h
  case agg => subst h; simp only [okV] at hv; exact okVs_iff.1 hv
  case sdat => subst h; exact explode_ok L _ _
  case raw => split at h <;> cases h; simp [okV]
  all_goals (subst h; intro c hc; simp at hc; subst hc; exact hv)

theorem window_map {α β : Type} (f : α → β) (cs : List α) (off n : Nat) : window (cs.map f) off n = (window cs off n).map (·.map f) := by
  unfold window; simp only [List.length_map]; split <;> simp [List.map_take, List.map_drop]
theorem window_mem {α : Type} {cs ws : List α} {off n : Nat} (h : window cs off n = some ws) : ∀ x ∈ ws, x ∈ cs := by
  unfold window at h; split at h <;> cases h
  intro x hx; exact List.mem_of_mem_drop (List.mem_of_mem_take hx)
theorem splice_map {α β : Type} (f : α → β) (cs : List α) (off : Nat) (new : List α) : splice (cs.map f) off (new.map f) = (splice cs off new).map (·.map f) := by
  unfold splice; simp only [List.length_map]; split <;> simp [List.map_take, List.map_drop]
theorem splice_mem {α : Type} {cs ws new : List α} {off : Nat} (h : splice cs off new = some ws) : ∀ x ∈ ws, x ∈ cs ∨ x ∈ new := by
  unfold splice at h; split at h <;> cases h
  intro x hx
  simp only [List.mem_append] at hx
  rcases hx with (hx | hx) | hx
  · exact .inl (List.mem_of_mem_take hx)
  · exact .inr hx
  · exact .inl (List.mem_of_mem_drop hx)

/-- Data out of cells whose shape is known. -/
def capC : (τ : Ty) → List TV → Option (τ.el × List TV)
  | .pair a b => fun cs => match capC a cs with
    | some (x, cs) => match capC b cs with
      | some (y, cs) => some ((x, y), cs)
      | none => none
    | none => none
  | .unit => fun cs => some ((), cs)
  | .nat => fun _ => none
  | .sl r => fun cs => match cs with
    | .dat τ' x :: l => match Ty.cast τ' (.sl r) x with
      | some y => some (y, l)
      | none => none
    | .nil :: l => some ([], l)
    | _ => none
  | τ => fun cs => match cs with
    | .dat τ' x :: l => match Ty.cast τ' τ x with
      | some y => some (y, l)
      | none => none
    | _ => none

theorem capC_leaf {τ τ' : Ty} {x : τ'.el} {y : τ.el} (hl : τ.isLeaf = true) (h : Ty.cast τ' τ x = some y) (live : Bool) (blk : Blk) (n : Nat) :
    ([TV.dat τ' x].map TV.den).mapM (view live blk (n + 1)) = some (encC τ y) := by
  obtain ⟨e, h⟩ := Ty.cast_some h
  subst e; subst h
  simp only [List.map_cons, List.map_nil, TV.den, List.mapM_cons, view, List.mapM_nil, encC_leaf hl]; rfl

theorem capC_view : ∀ (τ : Ty) (cs : List TV) (x : τ.el) (rest : List TV), capC τ cs = some (x, rest) →
    ∃ pre, cs = pre ++ rest ∧ ∀ (live : Bool) (blk : Blk) (n : Nat), (pre.map TV.den).mapM (view live blk (n + 1)) = some (encC τ x) := by
  intro τ
  induction τ with
  | pair a b iha ihb =>
    intro cs x rest h
    simp only [capC] at h
    split at h
    · rename_i x1 cs1 h1
      split at h
      · rename_i y cs2 h2
        cases h
        obtain ⟨p1, e1, k1⟩ := iha _ _ _ h1
        obtain ⟨p2, e2, k2⟩ := ihb _ _ _ h2
        refine ⟨p1 ++ p2, by rw [e1, e2]; simp, fun live blk n => ?_⟩
        rw [List.map_append, List.mapM_append, k1, k2]; rfl
      · cases h
    · cases h
  | unit => intro cs x rest h; simp only [capC] at h; cases h; exact ⟨[], rfl, fun _ _ _ => rfl⟩
  | nat => intro cs x rest h; simp only [capC] at h; cases h
  | sl r _ =>
    intro cs x rest h
    simp only [capC] at h
    split at h
    · split at h
      · rename_i y hc; cases h; exact ⟨[_], rfl, capC_leaf rfl hc⟩
      · cases h
    · cases h; exact ⟨[.nil], rfl, fun _ _ _ => rfl⟩
    · cases h
  | int k =>
    intro cs x rest h
    simp only [capC] at h
    split at h
    · split at h
      · rename_i y hc; cases h; exact ⟨[_], rfl, capC_leaf rfl hc⟩
      · cases h
    · cases h
  | bool =>
    intro cs x rest h
    simp only [capC] at h
    split at h
    · split at h
      · rename_i y hc; cases h; exact ⟨[_], rfl, capC_leaf rfl hc⟩
      · cases h
    · cases h
  | str =>
    intro cs x rest h
    simp only [capC] at h
    split at h
    · split at h
      · rename_i y hc; cases h; exact ⟨[_], rfl, capC_leaf rfl hc⟩
      · cases h
    · cases h

/-- A row of a slice, out of a value. -/
def rowT (τ : Ty) (v : TV) : Option τ.el := match avCellsT v with
  | some cs => match capC τ cs with
    | some (x, []) => some x
    | _ => none
  | none => none
theorem rowT_row {τ : Ty} {v : TV} {x : τ.el} (h : rowT τ v = some x) (blk : Blk) : rowOf blk τ.sz v.den = some (encC τ x) := by
  unfold rowT at h
  split at h
  · rename_i cs hc
    split at h
    · rename_i y hy
      cases h
      obtain ⟨pre, e, k⟩ := capC_view _ _ _ _ hy
      rw [List.append_nil] at e; subst e
      unfold rowOf
      rw [avCellsT_den, hc]
      simp only [Option.map_some, Option.bind_some, List.length_map]
      have := k false blk 7
      have hl : cs.length = τ.sz := by
        have := (mapM_get this).1
        simpa [encC_length] using this
      rw [if_pos hl, this]
    · cases h
  · cases h

end Go.Abs

/- Operations on values whose data are open, with what comes after them. -/
namespace Go.Abs
open Go.RowKit

section
variable {R : Type}

def guardT (p : Prop) [Decidable p] (k : Option R) : Option R := if p then k else none
theorem guardT_some {p : Prop} [Decidable p] {k : Option R} {x : R} (h : guardT p k = some x) : p ∧ k = some x := by
  unfold guardT at h; split at h
  · exact ⟨by assumption, h⟩
  · cases h
theorem guardT_pos {p : Prop} [Decidable p] {k : Option R} (h : p) : guardT p k = k := if_pos h

theorem bindT_some {α : Type} {o : Option α} {k : α → Option R} {x : R} (h : o.bind k = some x) : ∃ a, o = some a ∧ k a = some x := by
  simpa [Option.bind_eq_some_iff] using h

def asIntT : TV → Option Int
  | .dat (.int _) n => some n
  | _ => none
def asBoolT : TV → Option Bool
  | .dat .bool b => some b
  | .raw (.bool b) => some b
  | _ => none
/-- What is known as a constant, as data. -/
def unraw : TV → TV
  | .raw (.bool b) => .dat .bool b
  | v => v
theorem unraw_den (v : TV) : (unraw v).den = v.den := by
  unfold unraw; split <;> rfl
theorem unraw_ok {L : Ref → Nat → Prop} {v : TV} (h : okV L v) : okV L (unraw v) := by
  unfold unraw; split
  · simp only [okV]
  · exact h
theorem asIntT_den {v : TV} {n : Int} (h : asIntT v = some n) : asInt v.den = some n := by
  unfold asIntT at h; split at h <;> cases h; rfl
theorem asBoolT_den {v : TV} {b : Bool} (h : asBoolT v = some b) : asBool v.den = some b := by
  unfold asBoolT at h; split at h <;> cases h <;> rfl

/-- The value that an operation yields. -/
def ValR (o : Option Value) (K : TV → Option R) (x : R) : Prop := ∃ u v, o = some u ∧ TV.den v = .pd (.val u) ∧ (∀ L, okV L v) ∧ K v = some x
theorem ValR.int {k : IntKind} {n : Int} {K : TV → Option R} {x : R} (h : K (.dat (.int k) n) = some x) : ValR (some (.int k n)) K x := ⟨_, _, rfl, rfl, fun _ => by simp only [okV], h⟩
theorem ValR.bool {b : Bool} {K : TV → Option R} {x : R} (h : K (.dat .bool b) = some x) : ValR (some (.bool b)) K x := ⟨_, _, rfl, rfl, fun _ => by simp only [okV], h⟩
theorem ValR.str {s : List UInt8} {K : TV → Option R} {x : R} (h : K (.dat .str s) = some x) : ValR (some (.string ⟨s.toArray⟩)) K x := ⟨_, _, rfl, rfl, fun _ => by simp only [okV], h⟩

def intT (op : BinOp) (k : IntKind) (a b : Int) (K : TV → Option R) : Option R :=
  match op with
  | .add => K (.dat (.int k) (k.wrap (a + b)))
  | .sub => K (.dat (.int k) (k.wrap (a - b)))
  | .mul => K (.dat (.int k) (k.wrap (a * b)))
  | .quo => guardT (b ≠ 0) (K (.dat (.int k) (k.wrap (a.tdiv b))))
  | .rem => guardT (b ≠ 0) (K (.dat (.int k) (a.tmod b)))
  | .and => K (.dat (.int k) (k.wrap (BitVec.ofInt k.bits a &&& BitVec.ofInt k.bits b).toNat))
  | .or => K (.dat (.int k) (k.wrap (BitVec.ofInt k.bits a ||| BitVec.ofInt k.bits b).toNat))
  | .xor => K (.dat (.int k) (k.wrap (BitVec.ofInt k.bits a ^^^ BitVec.ofInt k.bits b).toNat))
  | .andNot => K (.dat (.int k) (k.wrap (BitVec.ofInt k.bits a &&& ~~~ BitVec.ofInt k.bits b).toNat))
  | .eql => K (.dat .bool (a == b))
  | .neq => K (.dat .bool (a != b))
  | .lss => K (.dat .bool (a < b))
  | .leq => K (.dat .bool (a ≤ b))
  | .gtr => K (.dat .bool (a > b))
  | .geq => K (.dat .bool (a ≥ b))
  | _ => none
theorem intT_ok {op : BinOp} {k : IntKind} {a b : Int} {K : TV → Option R} {x : R} (h : intT op k a b K = some x) : ValR (intV op k a b) K x := by
  cases op <;> simp only [intT, reduceCtorEq] at h <;> simp only [intV] <;> first | exact .int h | exact .bool h | skip
  case quo => replace h := guardT_some h; obtain ⟨hb, h⟩ := h; rw [if_neg hb]; exact .int h
  case rem => replace h := guardT_some h; obtain ⟨hb, h⟩ := h; rw [if_neg hb]; exact .int h

def shiftT (op : BinOp) (k : IntKind) (a b : Int) (K : TV → Option R) : Option R :=
  match op with
  | .shl => guardT (0 ≤ b) (K (.dat (.int k) (k.wrap (a * 2 ^ min b.toNat k.bits))))
  | .shr => guardT (0 ≤ b) (K (.dat (.int k) (a.fdiv (2 ^ min b.toNat k.bits))))
  | _ => none
theorem shiftT_ok {op : BinOp} {k : IntKind} {a b : Int} {K : TV → Option R} {x : R} (h : shiftT op k a b K = some x) : ValR (shiftV op k a b) K x := by
  cases op <;> simp only [shiftT, reduceCtorEq] at h <;> (replace h := guardT_some h; obtain ⟨hb, h⟩ := h; simp only [shiftV]; rw [if_neg (by omega)]; exact .int h)

def strT (op : BinOp) (a b : List UInt8) (K : TV → Option R) : Option R :=
  match op with
  | .add => guardT (a.length + b.length ≤ 2 ^ 62) (K (.dat .str (a ++ b)))
  | .eql => K (.dat .bool (a == b))
  | .neq => K (.dat .bool (a != b))
  | .lss => K (.dat .bool (Op.bytesLess a b))
  | .leq => K (.dat .bool (Op.bytesLess a b || a == b))
  | .gtr => K (.dat .bool !(Op.bytesLess a b || a == b))
  | .geq => K (.dat .bool !(Op.bytesLess a b))
  | _ => none
theorem strT_ok {op : BinOp} {a b : List UInt8} {K : TV → Option R} {x : R} (h : strT op a b K = some x) : ValR (strV op ⟨a.toArray⟩ ⟨b.toArray⟩) K x := by
  cases op <;> simp only [strT, reduceCtorEq] at h <;> simp only [strV, ByteArray.toList_mk] <;> first | exact .bool h | skip
  replace h := guardT_some h; obtain ⟨hb, h⟩ := h
  have : (ByteArray.mk a.toArray).size + (ByteArray.mk b.toArray).size ≤ 2 ^ 62 := hb
  rw [if_pos this, ByteArray.mk_append_mk]; exact .str h

def nilPT : TV → Option Bool
  | .raw (.pointer none) => some true
  | .ptr _ _ | .eptr _ _ _ | .epd _ _ _ => some false
  | _ => none
theorem nilPT_ok {v : TV} {b : Bool} (h : nilPT v = some b) : nilP v.den = some b := by
  unfold nilPT at h; split at h <;> cases h <;> rfl
def nilST : TV → Option Bool
  | .nil => some true
  | .dat (.sl _) l => match l with
    | _ :: _ => some false
    | [] => none
  | _ => none
theorem nilST_ok {v : TV} {b : Bool} (h : nilST v = some b) : nilS v.den = some b := by
  unfold nilST at h; split at h
  · cases h; rfl
  · split at h <;> cases h; rfl
  · cases h

def boolT (P : Program) (t : TypeId) (op : BinOp) (a b : Bool) (K : TV → Option R) : Option R :=
  match descOf P t, op with
  | some .bool, .eql => K (.dat .bool (a == b))
  | some .bool, .neq => K (.dat .bool !(a == b))
  | _, _ => none
def eqnT (op : BinOp) (b : Option Bool) (K : TV → Option R) : Option R :=
  match op, b with
  | .eql, some b => K (.dat .bool b)
  | .neq, some b => K (.dat .bool !b)
  | _, _ => none
def isPtrD : Option TypeDesc → Bool
  | some (.pointer _) => true
  | _ => false
def isSlD : Option TypeDesc → Bool
  | some (.slice _) => true
  | _ => false

def partT (P : Program) (t : TypeId) (cs : List TV) (off : Nat) : Option TV :=
  (ti P t).bind fun i => if TypeDesc.agg i.desc then (window cs off i.size).map .agg else cs[off]?
theorem partT_den {P : Program} {t : TypeId} {cs : List TV} {off : Nat} : partA P t (cs.map TV.den) off = (partT P t cs off).map TV.den := by
  unfold partA partT
  cases ti P t with
  | none => rfl
  | some i =>
    simp only [Option.bind_some]
    split
    · rw [window_map]; cases window cs off i.size <;> simp [TV.den, TV.dens_eq]
    · simp
theorem partT_ok {P : Program} {t : TypeId} {cs : List TV} {off : Nat} {L : Ref → Nat → Prop} {v : TV} (h : partT P t cs off = some v) (hc : ∀ c ∈ cs, okV L c) : okV L v := by
  replace h := bindT_some h; obtain ⟨i, _, h⟩ := h
  split at h
  · obtain ⟨ws, hw, rfl⟩ := Option.map_eq_some_iff.1 h
    simp only [okV]; exact okVs_iff.2 fun c hcw => hc c (window_mem hw c hcw)
  · exact hc v (List.mem_of_getElem? h)

/-! Structs that are compared. -/
def cmpT : TV → TV → Option Bool
  | .dat (.int k) a, .dat (.int k') b => match decEq k k' with
    | isTrue _ => some (a == b)
    | isFalse _ => none
  | .dat .str a, .dat .str b => some (a == b)
  | .dat .bool a, .dat .bool b => some (a == b)
  | _, _ => none
def aggT : TV → Option (List TV)
  | .agg cs => some cs
  | .sdat τ x => some (explode τ x)
  | _ => none
def cmpKindT : TypeDesc → TV → Bool
  | .int _, .dat (.int _) _ => true
  | .string, .dat .str _ => true
  | .bool, .dat .bool _ => true
  | _, _ => false
def eqFsT (P : Program) (E : TypeId → TV → TV → Option Bool) (xs ys : List TV) : List Field → Option Bool
  | [] => some true
  | f :: fs => if f.name = "_" then none else (partT P f.type xs f.offset).bind fun a => (partT P f.type ys f.offset).bind fun b => (E f.type a b).bind fun r => match fs with
    | [] => some r
    | f' :: fs => (eqFsT P E xs ys (f' :: fs)).bind fun q => some (r && q)
def eqT (P : Program) : Nat → TypeId → TV → TV → Option Bool
  | 0, _, _, _ => none
  | d + 1, t, x, y => (ti P t).bind fun i => match i.desc with
    | .struct fs => match P.stoodInHeld t with
      | true => none
      | false => (aggT x).bind fun xs => (aggT y).bind fun ys => eqFsT P (eqT P d) xs ys fs.toList
    | i => match cmpKindT i x with
      | true => cmpT x y
      | false => none
theorem cmpT_den {x y : TV} {b : Bool} (h : cmpT x y = some b) : cmpA x.den y.den = some b := by
  unfold cmpT at h
  split at h
  · split at h
    · rename_i e _; subst e; simp only [TV.den, encL, cmpA, if_true]; exact h
    · cases h
  · simp only [TV.den, encL, cmpA, ByteArray.toList_mk]; exact h
  · simp only [TV.den, encL, cmpA]; exact h
  · cases h
theorem aggT_den {x : TV} {cs : List TV} (h : aggT x = some cs) : aggA x.den = some (cs.map TV.den) := by
  unfold aggT at h
  split at h
  · cases h; simp only [TV.den, TV.dens_eq, aggA]
  · cases h; simp only [TV.den, aggA, explode_den]
  · cases h
theorem cmpKindT_den {i : TypeDesc} {x : TV} (h : cmpKindT i x = true) : cmpKind i x.den = true := by
  unfold cmpKindT at h
  split at h
  · rfl
  · rfl
  · rfl
  · cases h
theorem eqFsT_den {P : Program} {E : TypeId → TV → TV → Option Bool} {F : TypeId → AV → AV → Option Bool} (hE : ∀ t x y b, E t x y = some b → F t x.den y.den = some b) {xs ys : List TV} :
    ∀ (fs : List Field) (b : Bool), eqFsT P E xs ys fs = some b → eqFs P F (xs.map TV.den) (ys.map TV.den) fs = some b
  | [], b, h => h
  | [f], b, h => by
    simp only [eqFsT] at h
    split at h
    · cases h
    rename_i hn
    replace h := bindT_some h; obtain ⟨a, ha, h⟩ := h
    replace h := bindT_some h; obtain ⟨c, hc, h⟩ := h
    replace h := bindT_some h; obtain ⟨r, hr, h⟩ := h
    cases h
    simp only [eqFs, if_neg hn, partT_den, ha, hc, Option.map_some, Option.bind_some, hE _ _ _ _ hr, Bool.and_true]
  | f :: f' :: fs, b, h => by
    rw [eqFsT] at h
    split at h
    · cases h
    rename_i hn
    replace h := bindT_some h; obtain ⟨a, ha, h⟩ := h
    replace h := bindT_some h; obtain ⟨c, hc, h⟩ := h
    replace h := bindT_some h; obtain ⟨r, hr, h⟩ := h
    simp only at h
    replace h := bindT_some h; obtain ⟨q, hq, h⟩ := h
    cases h
    have ih := eqFsT_den hE (f' :: fs) q hq
    rw [eqFs]
    simp only [if_neg hn, partT_den, ha, hc, Option.map_some, Option.bind_some, hE _ _ _ _ hr, ih]
theorem eqT_den {P : Program} : ∀ (d : Nat) (t : TypeId) (x y : TV) (b : Bool), eqT P d t x y = some b → eqA P d t x.den y.den = some b
  | 0, _, _, _, _, h => by cases h
  | d + 1, t, x, y, b, h => by
    simp only [eqT] at h
    replace h := bindT_some h; obtain ⟨i, hi, h⟩ := h
    simp only [eqA, hi, Option.bind_some]
    split at h
    · rename_i fs hd
      rw [hd]
      split at h
      · cases h
      rename_i hs
      replace h := bindT_some h; obtain ⟨xs, hxs, h⟩ := h
      replace h := bindT_some h; obtain ⟨ys, hys, h⟩ := h
      simp only [hs, Bool.false_eq_true, if_false, aggT_den hxs, aggT_den hys, Option.bind_some]
      exact eqFsT_den (eqT_den d) _ _ h
    · rename_i hd
      split at h
      · rename_i hk
        split
        · rename_i fs e; exact absurd e (hd fs)
        · rw [if_pos (cmpKindT_den hk)]
          exact cmpT_den h
      · cases h

def binT (P : Program) (op : BinOp) (t : TypeId) (x y : TV) (K : TV → Option R) : Option R :=
  match x, y with
  | .dat (.int k) a, .dat (.int k') b => match isShift op with
    | true => shiftT op k a b K
    | false => match decEq k k' with
      | isTrue _ => intT op k a b K
      | isFalse _ => none
  | .dat .str a, .dat .str b => strT op a b K
  | .dat .bool a, .dat .bool b => boolT P t op a b K
  | x, .raw (.pointer none) => match isPtrD (descOf P t) with
    | true => eqnT op (nilPT x) K
    | false => none
  | x, .nil => match isSlD (descOf P t) with
    | true => eqnT op (nilST x) K
    | false => none
  | x, y => match P.eqGuardType P.depth t with
    | true => none
    | false => (aggT x).bind fun _ => (aggT y).bind fun _ => (eqT P 16 t x y).bind fun b => match op with
      | .eql => K (.dat .bool b)
      | .neq => K (.dat .bool !b)
      | _ => none

theorem eqnT_ok {op : BinOp} {b : Option Bool} {K : TV → Option R} {x : R} (h : eqnT op b K = some x) : ∃ c, b = some c ∧ ((op = .eql ∧ K (.dat .bool c) = some x) ∨ (op = .neq ∧ K (.dat .bool !c) = some x)) := by
  unfold eqnT at h; split at h
  · exact ⟨_, rfl, .inl ⟨rfl, h⟩⟩
  · exact ⟨_, rfl, .inr ⟨rfl, h⟩⟩
  · cases h

def ptrV (P : Program) (t : TypeId) (op : BinOp) (b : Option Bool) : Option Value :=
  match descOf P t, op, b with
  | some (.pointer _), .eql, some b => some (.bool b)
  | some (.pointer _), .neq, some b => some (.bool !b)
  | _, _, _ => none
def slcV (P : Program) (t : TypeId) (op : BinOp) (b : Option Bool) : Option Value :=
  match descOf P t, op, b with
  | some (.slice _), .eql, some b => some (.bool b)
  | some (.slice _), .neq, some b => some (.bool !b)
  | _, _, _ => none
theorem binV_ptr (P : Program) (op : BinOp) (t : TypeId) (A : AV) : binV P op t A (.pd (.val (.pointer none))) = ptrV P t op (nilP A) := by
  unfold binV
  split <;> simp_all <;> rfl
theorem binV_nil (P : Program) (op : BinOp) (t : TypeId) (A : AV) : binV P op t A .nil = slcV P t op (nilS A) := by
  unfold binV
  split <;> simp_all <;> rfl

theorem binV_agg {P : Program} {op : BinOp} {t : TypeId} {A B : AV} {xs ys : List AV} {c : Bool} (hx : aggA A = some xs) (hy : aggA B = some ys) (hg : P.eqGuardType P.depth t = false) (h : eqA P 16 t A B = some c) :
    binV P op t A B = match op with
      | .eql => some (.bool c)
      | .neq => some (.bool !c)
      | _ => none := by
  unfold aggA at hx hy
  split at hx
  · split at hy
    · simp only [binV, hg, Bool.false_eq_true, if_false, aggA, Option.bind_some, h]; cases op <;> rfl
    · simp only [binV, hg, Bool.false_eq_true, if_false, aggA, Option.bind_some, h]; cases op <;> rfl
    · cases hy
  · split at hy
    · simp only [binV, hg, Bool.false_eq_true, if_false, aggA, Option.bind_some, h]; cases op <;> rfl
    · simp only [binV, hg, Bool.false_eq_true, if_false, aggA, Option.bind_some, h]; cases op <;> rfl
    · cases hy
  · cases hx

theorem binT_ok {P : Program} {op : BinOp} {t : TypeId} {a b : TV} {K : TV → Option R} {x : R} (h : binT P op t a b K = some x) : ValR (binV P op t a.den b.den) K x := by
  unfold binT at h
  split at h
  · simp only [TV.den, encL, binV]
    split at h
    · rename_i hs; rw [hs]; exact shiftT_ok h
    · rename_i hs; rw [hs]
      split at h
      · rename_i e _; subst e; simp only [Bool.false_eq_true, if_false, if_true]; exact intT_ok h
      · cases h
  · simp only [TV.den, encL, binV]; exact strT_ok h
  · simp only [TV.den, encL, binV]
    unfold boolT at h
    split at h
    · rename_i e; rw [e]; exact .bool h
    · rename_i e; rw [e]; exact .bool h
    · cases h
  · split at h
    case h_2 => cases h
    rename_i hp
    obtain ⟨c, hc, h2⟩ := eqnT_ok h
    clear h
    have hn := nilPT_ok hc
    show ValR (binV P op t a.den (.pd (.val (.pointer none)))) K x
    rw [binV_ptr, hn]
    unfold ptrV
    unfold isPtrD at hp
    split at hp
    · rename_i e
      rw [e]
      rcases h2 with ⟨rfl, h⟩ | ⟨rfl, h⟩
      · exact .bool h
      · exact .bool h
    · cases hp
  · split at h
    case h_2 => cases h
    rename_i hp
    obtain ⟨c, hc, h2⟩ := eqnT_ok h
    clear h
    have hn := nilST_ok hc
    show ValR (binV P op t a.den .nil) K x
    rw [binV_nil, hn]
    unfold slcV
    unfold isSlD at hp
    split at hp
    · rename_i e
      rw [e]
      rcases h2 with ⟨rfl, h⟩ | ⟨rfl, h⟩
      · exact .bool h
      · exact .bool h
    · cases hp
  · split at h
    · cases h
    rename_i hno1 hno2 _ hg
    replace h := bindT_some h; obtain ⟨xs, hxs, h⟩ := h
    replace h := bindT_some h; obtain ⟨ys, hys, h⟩ := h
    replace h := bindT_some h; obtain ⟨c, hc, h⟩ := h
    show ValR (binV P op t a.den b.den) K x
    rw [binV_agg (aggT_den hxs) (aggT_den hys) hg (eqT_den _ _ _ _ _ hc)]
    split at h
    · exact .bool h
    · exact .bool h
    · cases h

def unT (op : UnOp) (x : TV) (K : TV → Option R) : Option R :=
  match op, x with
  | .neg, .dat (.int k) n => K (.dat (.int k) (k.wrap (0 - n)))
  | .xor, .dat (.int k) n => intT .xor k (if k.signed then -1 else k.max) n K
  | .not, .dat .bool b => K (.dat .bool !b)
  | .not, .raw (.bool b) => K (.dat .bool !b)
  | _, _ => none
theorem unT_ok {op : UnOp} {a : TV} {K : TV → Option R} {x : R} (h : unT op a K = some x) : ValR (unV op a.den) K x := by
  unfold unT at h
  split at h
  · simp only [TV.den, encL, unV]; exact .int h
  · simp only [TV.den, encL, unV]; exact intT_ok h
  · simp only [TV.den, encL, unV]; exact .bool h
  · simp only [TV.den, unV]; exact .bool h
  · cases h

/-! ### Results that are values with a shape -/
def AvR (o : Option AV) (L : Ref → Nat → Prop) (K : TV → Option R) (x : R) : Prop := ∃ v, o = some (TV.den v) ∧ okV L v ∧ K v = some x

def convertT (P : Program) (src dst : TypeId) (x : TV) (K : TV → Option R) : Option R :=
  (ti P src).bind fun _ => (ti P dst).bind fun j => match j.desc, x with
    | .int k, .dat (.int _) n => K (.dat (.int k) (k.wrap n))
    | .string, .dat .str s => K (.dat .str s)
    | _, _ => none
theorem convertT_ok {P : Program} {src dst : TypeId} {a : TV} {L : Ref → Nat → Prop} {K : TV → Option R} {x : R} (h : convertT P src dst a K = some x) : AvR (convertA P src dst a.den) L K x := by
  obtain ⟨i, hi, h1⟩ := bindT_some h
  obtain ⟨j, hj, h2⟩ := bindT_some h1
  clear h h1
  simp only [convertA, hi, hj, Option.bind_some]
  split at h2
  · rename_i e; rw [e]; exact ⟨_, rfl, by simp only [okV], h2⟩
  · rename_i e; rw [e]; exact ⟨_, rfl, by simp only [okV], h2⟩
  · cases h2

def fieldT (P : Program) (t : TypeId) (x : TV) (f : Nat) : Option TV :=
  (ti P t).bind fun i => match i.desc with
    | .struct fs => (fs[f]?).bind fun fd => match x with
      | .agg cs => partT P fd.type cs fd.offset
      | .sdat τ y => partT P fd.type (explode τ y) fd.offset
      | _ => none
    | _ => none
theorem fieldT_ok {P : Program} {t : TypeId} {a v : TV} {f : Nat} {L : Ref → Nat → Prop} (h : fieldT P t a f = some v) (ha : okV L a) : fieldA P t a.den f = some v.den ∧ okV L v := by
  replace h := bindT_some h; obtain ⟨i, hi, h⟩ := h
  simp only [fieldA, hi, Option.bind_some]
  split at h
  case h_2 => cases h
  rename_i hd
  replace h := bindT_some h; obtain ⟨fd, hf, h⟩ := h
  rw [hd]
  simp only [hf, Option.bind_some]
  split at h
  · simp only [TV.den, TV.dens_eq, partT_den, h, Option.map_some]
    simp only [okV] at ha
    exact ⟨trivial, partT_ok h (okVs_iff.1 ha)⟩
  · simp only [TV.den, ← explode_den, partT_den, h, Option.map_some]
    exact ⟨trivial, partT_ok h (explode_ok L _ _)⟩
  · cases h

def indexT (P : Program) (t : TypeId) (x ix : TV) (K : TV → Option R) : Option R :=
  (ti P t).bind fun i => (asIntT ix).bind fun k => match i.desc, x with
    | .array n e, .agg cs => guardT (0 ≤ k ∧ k < n) ((ti P e).bind fun j => (partT P e cs (k.toNat * j.size)).bind K)
    | .array n e, .sdat τ y => guardT (0 ≤ k ∧ k < n) ((ti P e).bind fun j => (partT P e (explode τ y) (k.toNat * j.size)).bind K)
    | .string, .dat .str s => guardT (0 ≤ k) ((s[k.toNat]?).bind fun b => K (.dat (.int .u8) b.toNat))
    | _, _ => none
theorem indexT_ok {P : Program} {t : TypeId} {a b : TV} {L : Ref → Nat → Prop} {K : TV → Option R} {x : R} (h : indexT P t a b K = some x) (ha : okV L a) : AvR (indexA P t a.den b.den) L K x := by
  replace h := bindT_some h; obtain ⟨i, hi, h⟩ := h
  replace h := bindT_some h; obtain ⟨k, hk, h⟩ := h
  simp only [indexA, hi, asIntT_den hk, Option.bind_some]
  split at h
  · rename_i hd
    replace h := guardT_some h; obtain ⟨hb, h⟩ := h
    replace h := bindT_some h; obtain ⟨j, hj, h⟩ := h
    replace h := bindT_some h; obtain ⟨v, hv, h⟩ := h
    simp only [hd, TV.den, hj, Option.bind_some]
    rw [if_pos hb, TV.dens_eq, partT_den, hv]
    simp only [okV] at ha
    exact ⟨v, rfl, partT_ok hv (okVs_iff.1 ha), h⟩
  · rename_i hd
    replace h := guardT_some h; obtain ⟨hb, h⟩ := h
    replace h := bindT_some h; obtain ⟨j, hj, h⟩ := h
    replace h := bindT_some h; obtain ⟨v, hv, h⟩ := h
    simp only [hd, TV.den, hj, Option.bind_some]
    rw [if_pos hb, ← explode_den, partT_den, hv]
    exact ⟨v, rfl, partT_ok hv (explode_ok L _ _), h⟩
  · rename_i s hd
    replace h := guardT_some h; obtain ⟨hb, h⟩ := h
    replace h := bindT_some h; obtain ⟨c, hc, h⟩ := h
    simp only [hd, TV.den, encL]
    have hlt := (List.getElem?_eq_some_iff.1 hc).1
    have hlt' : k.toNat < (ByteArray.mk s.toArray).size := hlt
    have hk2 : k < (ByteArray.mk s.toArray).size := by omega
    rw [if_pos ⟨hb, hk2⟩, ByteArray.getElem?_lt' _ _ hlt']
    refine ⟨_, ?_, ?_, h⟩
    · have : (ByteArray.mk s.toArray)[k.toNat]'hlt' = c := by
        have h2 := (List.getElem?_eq_some_iff.1 hc).2
        rw [← h2]; rfl
      rw [this]; rfl
    · simp only [okV]
  · cases h

def fieldAddrT (P : Program) (s : TypeId) (x : TV) (f : Nat) : Option TV :=
  (ti P s).bind fun i => match i.desc with
    | .struct fs => (fs[f]?).bind fun fd => (ti P fd.type).bind fun j =>
      if j.size = 0 then none else
      match x with
      | .ptr r off => some (.ptr r (off + fd.offset))
      | .eptr r row off => some (.eptr r row (off + fd.offset))
      | .epd τ y off => some (.epd τ y (off + fd.offset))
      | _ => none
    | _ => none
theorem fieldAddrT_ok {P : Program} {s : TypeId} {a v : TV} {f : Nat} (h : fieldAddrT P s a f = some v) : fieldAddrA P s a.den f = some v.den ∧ ∀ L, okV L v := by
  replace h := bindT_some h; obtain ⟨i, hi, h⟩ := h
  simp only [fieldAddrA, hi, Option.bind_some]
  split at h
  case h_2 => cases h
  rename_i hd
  replace h := bindT_some h; obtain ⟨fd, hf, h⟩ := h
  replace h := bindT_some h; obtain ⟨j, hj, h⟩ := h
  rw [hd]
  simp only [hf, hj, Option.bind_some]
  split at h
  · cases h
  rename_i hz
  rw [if_neg hz]
  split at h <;> cases h <;> exact ⟨rfl, fun L => by simp only [okV]⟩

def indexAddrT (P : Program) (t : TypeId) (x ix : TV) (K : TV → Option R) : Option R :=
  (ti P t).bind fun i => (asIntT ix).bind fun k => match i.desc with
    | .slice e => (ti P e).bind fun j => match x with
      | .dat (.sl τ) l => match Nat.beq τ.sz j.size with
        | true => guardT (0 ≤ k) ((l[k.toNat]?).bind fun y => K (.epd τ y 0))
        | false => none
      | .slw r sz n => match Nat.beq sz j.size with
        | true => guardT (0 ≤ k ∧ k < n) (K (.eptr r k.toNat 0))
        | false => none
      | .sl r sz off n => match Nat.beq sz j.size with
        | true => guardT (0 ≤ k ∧ k < n) (K (.eptr r (off + k.toNat) 0))
        | false => none
      | _ => none
    | .array n e => (ti P e).bind fun j => guardT (0 ≤ k ∧ k < n) (match x with
      | .ptr r off => K (.ptr r (off + k.toNat * j.size))
      | .eptr r row off => K (.eptr r row (off + k.toNat * j.size))
      | .epd τ y off => K (.epd τ y (off + k.toNat * j.size))
      | _ => none)
    | _ => none
theorem indexAddrT_ok {P : Program} {t : TypeId} {a b : TV} {L : Ref → Nat → Prop} {K : TV → Option R} {x : R} (h : indexAddrT P t a b K = some x) : AvR (indexAddrA P t a.den b.den) L K x := by
  replace h := bindT_some h; obtain ⟨i, hi, h⟩ := h
  replace h := bindT_some h; obtain ⟨k, hk, h⟩ := h
  simp only [indexAddrA, hi, asIntT_den hk, Option.bind_some]
  split at h
  · rename_i e hd
    replace h := bindT_some h; obtain ⟨j, hj, h⟩ := h
    rw [hd]
    simp only [hj, Option.bind_some]
    split at h
    · rename_i τ l
      split at h
      · rename_i hb
        replace h := guardT_some h; obtain ⟨h0, h⟩ := h
        replace h := bindT_some h; obtain ⟨y, hy, h⟩ := h
        simp only [TV.den, encL, if_pos h0, List.getElem?_map, hy, Option.map_some, Option.bind_some, encC_length, Nat.eq_of_beq_eq_true hb, if_true]
        exact ⟨_, rfl, by simp only [okV], h⟩
      · cases h
    · split at h
      · rename_i hb
        replace h := guardT_some h; obtain ⟨h0, h⟩ := h
        simp only [TV.den]
        rw [if_pos ⟨h0.1, h0.2, Nat.eq_of_beq_eq_true hb⟩, Nat.zero_add]
        exact ⟨_, rfl, by simp only [okV], h⟩
      · cases h
    · split at h
      · rename_i hb
        replace h := guardT_some h; obtain ⟨h0, h⟩ := h
        simp only [TV.den]
        rw [if_pos ⟨h0.1, h0.2, Nat.eq_of_beq_eq_true hb⟩]
        exact ⟨_, rfl, by simp only [okV], h⟩
      · cases h
    · cases h
  · rename_i e hd
    replace h := bindT_some h; obtain ⟨j, hj, h⟩ := h
    replace h := guardT_some h; obtain ⟨h0, h⟩ := h
    rw [hd]
    simp only [hj, Option.bind_some]
    rw [if_pos h0]
    split at h
    · exact ⟨_, rfl, by simp only [okV], h⟩
    · exact ⟨_, rfl, by simp only [okV], h⟩
    · exact ⟨_, rfl, by simp only [okV], h⟩
    · cases h
  · cases h

/-! ### Cuts -/
def cutT {α : Type} (l : List α) (lo hi : Option TV) (K : List α → Option R) : Option R :=
  match lo, hi with
  | none, none => K l
  | none, some h => (asIntT h).bind fun h => guardT (0 ≤ h ∧ h ≤ l.length) (K (l.take h.toNat))
  | some lo, none => (asIntT lo).bind fun a => guardT (0 ≤ a ∧ a ≤ l.length) (K (l.drop a.toNat))
  | some lo, some h => (asIntT lo).bind fun a => (asIntT h).bind fun h => guardT (0 ≤ a ∧ a ≤ h ∧ h ≤ l.length) (K ((l.drop a.toNat).take (h.toNat - a.toNat)))
theorem cutT_ok {α : Type} {l : List α} {lo hi : Option TV} {K : List α → Option R} {x : R} (h : cutT l lo hi K = some x) :
    ∃ a b l', boundsA l.length (lo.map TV.den) (hi.map TV.den) = some (a, b) ∧ l' = (l.drop a).take (b - a) ∧ K l' = some x := by
  unfold cutT at h
  unfold boundsA
  split at h
  · refine ⟨0, l.length, l, ?_, by simp, h⟩
    simp
  · replace h := bindT_some h; obtain ⟨b, hb, h⟩ := h
    replace h := guardT_some h; obtain ⟨h0, h⟩ := h
    refine ⟨0, b.toNat, _, ?_, by simp, h⟩
    simp only [Option.map_some, asIntT_den hb, Option.bind_some, Option.map_none]
    rw [if_pos ⟨by omega, h0.1, h0.2⟩]; rfl
  · replace h := bindT_some h; obtain ⟨a, ha, h⟩ := h
    replace h := guardT_some h; obtain ⟨h0, h⟩ := h
    refine ⟨a.toNat, l.length, _, ?_, ?_, h⟩
    · simp only [Option.map_some, asIntT_den ha, Option.bind_some, Option.map_none]
      rw [if_pos ⟨h0.1, h0.2, by omega⟩]; simp
    · rw [List.take_of_length_le (by simp)]
  · replace h := bindT_some h; obtain ⟨a, ha, h⟩ := h
    replace h := bindT_some h; obtain ⟨b, hb, h⟩ := h
    replace h := guardT_some h; obtain ⟨h0, h⟩ := h
    refine ⟨a.toNat, b.toNat, _, ?_, rfl, h⟩
    simp only [Option.map_some, asIntT_den ha, asIntT_den hb, Option.bind_some]
    rw [if_pos h0]

/-- The bounds of a cut of so many. -/
def cutN (n : Nat) (lo hi : Option TV) (K : Nat → Nat → Option R) : Option R :=
  match lo, hi with
  | none, none => K 0 n
  | none, some h => (asIntT h).bind fun h => guardT (0 ≤ h ∧ h ≤ n) (K 0 h.toNat)
  | some lo, none => (asIntT lo).bind fun a => guardT (0 ≤ a ∧ a ≤ n) (K a.toNat (n - a.toNat))
  | some lo, some h => (asIntT lo).bind fun a => (asIntT h).bind fun h => guardT (0 ≤ a ∧ a ≤ h ∧ h ≤ n) (K a.toNat (h.toNat - a.toNat))
theorem cutN_ok {n : Nat} {lo hi : Option TV} {K : Nat → Nat → Option R} {x : R} (h : cutN n lo hi K = some x) :
    ∃ a b, boundsA n (lo.map TV.den) (hi.map TV.den) = some (a, b) ∧ K a (b - a) = some x := by
  unfold cutN at h
  unfold boundsA
  split at h
  · refine ⟨0, n, by simp, h⟩
  · replace h := bindT_some h; obtain ⟨b, hb, h⟩ := h
    replace h := guardT_some h; obtain ⟨h0, h⟩ := h
    refine ⟨0, b.toNat, ?_, h⟩
    simp only [Option.map_some, asIntT_den hb, Option.bind_some, Option.map_none]
    rw [if_pos ⟨by omega, h0.1, h0.2⟩]; rfl
  · replace h := bindT_some h; obtain ⟨a, ha, h⟩ := h
    replace h := guardT_some h; obtain ⟨h0, h⟩ := h
    refine ⟨a.toNat, n, ?_, h⟩
    simp only [Option.map_some, asIntT_den ha, Option.bind_some, Option.map_none]
    rw [if_pos ⟨h0.1, h0.2, by omega⟩]; simp
  · replace h := bindT_some h; obtain ⟨a, ha, h⟩ := h
    replace h := bindT_some h; obtain ⟨b, hb, h⟩ := h
    replace h := guardT_some h; obtain ⟨h0, h⟩ := h
    refine ⟨a.toNat, b.toNat, ?_, h⟩
    simp only [Option.map_some, asIntT_den ha, asIntT_den hb, Option.bind_some]
    rw [if_pos h0]

def sliceT (P : Program) (t : TypeId) (x : TV) (lo hi : Option TV) (K : TV → Option R) : Option R :=
  (ti P t).bind fun i => match i.desc, x with
    | .string, .dat .str s => cutT s lo hi fun s => K (.dat .str s)
    | .slice e, .dat (.sl τ) l => (ti P e).bind fun j => match Nat.beq τ.sz j.size with
      | true => cutT l lo hi fun l => K (.dat (.sl τ) l)
      | false => none
    | .slice e, .nil => (ti P e).bind fun _ => cutN 0 lo hi fun _ _ => K .nil
    | .slice e, .slw r sz n => (ti P e).bind fun j => match Nat.beq sz j.size with
      | true => match lo, hi with
        | none, none => K (.slw r sz n)
        | lo, hi => cutN n lo hi fun a m => K (.sl r sz a m)
      | false => none
    | .slice e, .sl r sz off n => (ti P e).bind fun j => match Nat.beq sz j.size with
      | true => cutN n lo hi fun a m => K (.sl r sz (off + a) m)
      | false => none
    | _, _ => none
theorem sliceT_ok {P : Program} {t : TypeId} {a : TV} {lo hi : Option TV} {L : Ref → Nat → Prop} {K : TV → Option R} {x : R} (h : sliceT P t a lo hi K = some x) (ha : okV L a) : AvR (sliceA P t a.den (lo.map TV.den) (hi.map TV.den)) L K x := by
  replace h := bindT_some h; obtain ⟨i, hi', h⟩ := h
  simp only [sliceA, hi', Option.bind_some]
  split at h
  · rename_i s hd
    replace h := cutT_ok h; obtain ⟨a, b, l', hb, rfl, h⟩ := h
    have hb' : boundsA (ByteArray.mk s.toArray).size (lo.map TV.den) (hi.map TV.den) = some (a, b) := hb
    simp only [hd, TV.den, encL, hb', Option.map_some, ByteArray.extract_mk]
    exact ⟨_, rfl, by simp only [okV], h⟩
  · rename_i e τ l hd
    replace h := bindT_some h; obtain ⟨j, hj, h⟩ := h
    split at h
    · rename_i hz
      replace h := cutT_ok h; obtain ⟨a, b, l', hb, rfl, h⟩ := h
      simp only [hd, TV.den, encL, hj, Option.bind_some]
      rw [if_pos (by simp [encC_length, Nat.eq_of_beq_eq_true hz]), List.length_map, hb]
      refine ⟨_, ?_, by simp only [okV], h⟩
      simp only [Option.map_some, TV.den, encL, List.map_take, List.map_drop]
    · cases h
  · rename_i e hd
    replace h := bindT_some h; obtain ⟨j, hj, h⟩ := h
    replace h := cutN_ok h; obtain ⟨a, b, hb, h⟩ := h
    simp only [hd, TV.den, hj, Option.bind_some, hb]
    exact ⟨_, rfl, by simp only [okV], h⟩
  · rename_i e r sz n hd
    replace h := bindT_some h; obtain ⟨j, hj, h⟩ := h
    split at h
    case h_2 => cases h
    rename_i hz
    have hz := Nat.eq_of_beq_eq_true hz
    simp only [hd, TV.den, hj, Option.bind_some]
    rw [if_pos hz]
    split at h
    · refine ⟨_, ?_, ha, h⟩
      simp [boundsA, TV.den]
    · replace h := cutN_ok h; obtain ⟨a, b, hb, h⟩ := h
      rw [hb]
      exact ⟨_, by simp only [Option.map_some, Nat.zero_add]; rfl, by simp only [okV], h⟩
  · rename_i e r sz off n hd
    replace h := bindT_some h; obtain ⟨j, hj, h⟩ := h
    split at h
    case h_2 => cases h
    rename_i hz
    have hz := Nat.eq_of_beq_eq_true hz
    simp only [hd, TV.den, hj, Option.bind_some]
    rw [if_pos hz]
    replace h := cutN_ok h; obtain ⟨a, b, hb, h⟩ := h
    rw [hb]
    exact ⟨_, rfl, by simp only [okV], h⟩
  · cases h

def lenT (P : Program) (t : TypeId) (x : TV) (K : TV → Option R) : Option R :=
  (ti P t).bind fun i => match i.desc, x with
    | .string, .dat .str s => K (.dat (.int .i64) s.length)
    | .slice _, .dat (.sl _) l => K (.dat (.int .i64) l.length)
    | .slice _, .nil => K (.dat (.int .i64) 0)
    | .slice _, .slw _ _ n => K (.dat (.int .i64) n)
    | .slice _, .sl _ _ _ n => K (.dat (.int .i64) n)
    | .array n _, _ => K (.dat (.int .i64) n)
    | _, _ => none
theorem lenT_ok {P : Program} {t : TypeId} {a : TV} {K : TV → Option R} {x : R} (h : lenT P t a K = some x) : ∃ n : Int, lenA P t a.den = some n ∧ K (.dat (.int .i64) n) = some x := by
  replace h := bindT_some h; obtain ⟨i, hi, h⟩ := h
  simp only [lenA, hi, Option.bind_some]
  split at h
  · rename_i s hd; rw [hd]; exact ⟨_, rfl, h⟩
  · rename_i hd; rw [hd]; simp only [TV.den, encL, List.length_map]; exact ⟨_, rfl, h⟩
  · rename_i hd; rw [hd]; exact ⟨_, rfl, h⟩
  · rename_i hd; rw [hd]; exact ⟨_, rfl, h⟩
  · rename_i hd; rw [hd]; exact ⟨_, rfl, h⟩
  · rename_i hd; rw [hd]; exact ⟨_, rfl, h⟩
  · cases h

end
end Go.Abs

/- Operations that ask nothing of the blocks. -/
namespace Go.Abs
open Go.RowKit

section
variable {R : Type}

def pickT (t : Bool) (x y : TV) (K : TV → Option R) : Option R :=
  match x, y with
  | .dat τ x, .dat τ' y => match Ty.cast τ' τ y with
    | some y => K (.dat τ (cond t x y))
    | none => cond t (K (.dat τ x)) (K (.dat τ' y))
  | x, y => cond t (K x) (K y)
theorem pickT_ok {t : Bool} {a b : TV} {L : Ref → Nat → Prop} {K : TV → Option R} {x : R} (h : pickT t a b K = some x) (ha : okV L a) (hb : okV L b) :
    ∃ v, (if t then a.den else b.den) = TV.den v ∧ okV L v ∧ K v = some x := by
  unfold pickT at h
  split at h
  · split at h
    · rename_i y hc
      obtain ⟨e, hc⟩ := Ty.cast_some hc
      subst e; subst hc
      refine ⟨_, ?_, ?_, h⟩
      · cases t <;> rfl
      · simp only [okV]
    · cases t
      · exact ⟨_, rfl, hb, h⟩
      · exact ⟨_, rfl, ha, h⟩
  · cases t
    · exact ⟨_, rfl, hb, h⟩
    · exact ⟨_, rfl, ha, h⟩

def fillT (place : Nat → Option (Nat × Nat)) (cells : List TV) : List (Nat × TV) → Option (List TV)
  | [] => some cells
  | (i, v) :: rest => (place i).bind fun (off, size) => (avCellsT v).bind fun cs =>
      if cs.length = size then (splice cells off cs).bind fun cells' => fillT place cells' rest else none
theorem fillT_den {place : Nat → Option (Nat × Nat)} : ∀ (parts : List (Nat × TV)) (cells : List TV),
    fillA place (cells.map TV.den) (parts.map fun q => (q.1, q.2.den)) = (fillT place cells parts).map (·.map TV.den)
  | [], cells => rfl
  | (i, v) :: rest, cells => by
    simp only [List.map_cons, fillA, fillT]
    cases place i with
    | none => rfl
    | some q =>
      obtain ⟨off, size⟩ := q
      simp only [Option.bind_some, avCellsT_den]
      cases avCellsT v with
      | none => rfl
      | some cs =>
        simp only [Option.map_some, Option.bind_some, List.length_map]
        split
        · rw [splice_map]
          cases splice cells off cs with
          | none => rfl
          | some c2 => simp only [Option.map_some, Option.bind_some]; exact fillT_den rest c2
        · rfl
theorem fillT_ok {L : Ref → Nat → Prop} {place : Nat → Option (Nat × Nat)} : ∀ (parts : List (Nat × TV)) (cells cs : List TV), fillT place cells parts = some cs → (∀ c ∈ cells, okV L c) → (∀ q ∈ parts, okV L q.2) → ∀ c ∈ cs, okV L c
  | [], cells, cs, h, hc, _ => by simp only [fillT, Option.some.injEq] at h; subst h; exact hc
  | (i, v) :: rest, cells, cs, h, hc, hp => by
    simp only [fillT] at h
    replace h := bindT_some h
    obtain ⟨⟨off, size⟩, _, h⟩ := h
    replace h := bindT_some h
    obtain ⟨ws, hw, h⟩ := h
    split at h
    · replace h := bindT_some h
      obtain ⟨c2, h2, h⟩ := h
      refine fillT_ok rest c2 cs h (fun c hcc => ?_) (fun q hq => hp q (by simp [hq]))
      rcases splice_mem h2 c hcc with k | k
      · exact hc c k
      · exact avCellsT_ok hw (hp (i, v) (by simp)) c k
    · cases h

def buildT (P : Program) (t : TypeId) (parts : List (Nat × TV)) : Option TV :=
  (ti P t).bind fun i => match i.desc with
    | .struct fs => (places P fs).bind fun ps => if i.zero.all cellish then (fillT (fun k => ps[k]?) (i.zero.map ofValT) parts).map .agg else none
    | .array _ e => (ti P e).bind fun j => if i.zero.all cellish then (fillT (fun k => some (k * j.size, j.size)) (i.zero.map ofValT) parts).map .agg else none
    | _ => none
theorem zero_den (l : List Value) : (l.map ofValT).map TV.den = l.map ofVal := by simp [ofValT_den]
theorem zero_ok (L : Ref → Nat → Prop) (l : List Value) : ∀ c ∈ l.map ofValT, okV L c := by
  intro c hc; obtain ⟨v, _, rfl⟩ := List.mem_map.1 hc; exact ofValT_ok L v
theorem buildT_ok {P : Program} {t : TypeId} {parts : List (Nat × TV)} {v : TV} {L : Ref → Nat → Prop} (h : buildT P t parts = some v) (hp : ∀ q ∈ parts, okV L q.2) :
    buildA P t (parts.map fun q => (q.1, q.2.den)) = some v.den ∧ okV L v := by
  replace h := bindT_some h
  obtain ⟨i, hi, h⟩ := h
  simp only [buildA, hi, Option.bind_some]
  split at h
  · rename_i fs hd
    replace h := bindT_some h
    obtain ⟨ps, hps, h⟩ := h
    rw [hd]
    simp only [hps, Option.bind_some]
    split at h
    · rename_i hz
      obtain ⟨cs, hcs, rfl⟩ := Option.map_eq_some_iff.1 h
      rw [if_pos hz, ← zero_den, fillT_den, hcs]
      simp only [Option.map_some, TV.den, TV.dens_eq, okV, true_and]
      exact okVs_iff.2 (fillT_ok parts _ cs hcs (zero_ok L _) hp)
    · cases h
  · rename_i n e hd
    replace h := bindT_some h
    obtain ⟨j, hj, h⟩ := h
    rw [hd]
    simp only [hj, Option.bind_some]
    split at h
    · rename_i hz
      obtain ⟨cs, hcs, rfl⟩ := Option.map_eq_some_iff.1 h
      rw [if_pos hz, ← zero_den, fillT_den, hcs]
      simp only [Option.map_some, TV.den, TV.dens_eq, okV, true_and]
      exact okVs_iff.2 (fillT_ok parts _ cs hcs (zero_ok L _) hp)
    · cases h
  · cases h

/-! ### Slices' kinds -/
mutual
def tyOf (P : Program) : Nat → TypeId → Option Ty
  | 0, _ => none
  | k + 1, t => match ti P t with
    | none => none
    | some i => match i.desc with
      | .int k => some (.int k)
      | .bool => some .bool
      | .string => some .str
      | .slice e => match tyOf P k e with
        | some τ => some (.sl τ)
        | none => none
      | .struct fs => tysOf P k (fs.toList.map (·.type))
      | _ => none
def tysOf (P : Program) : Nat → List TypeId → Option Ty
  | 0, _ => none
  | _ + 1, [] => some .unit
  | k + 1, [t] => tyOf P k t
  | k + 1, t :: ts => match tyOf P k t, tysOf P k ts with
    | some a, some b => some (.pair a b)
    | _, _ => none
end

/-- The kind of a slice's rows, and what is known of their type. -/
def rowTy (P : Program) (e : TypeId) : Option (Ty × TI) :=
  match ti P e with
  | none => none
  | some j => match tyOf P 24 e with
    | none => none
    | some τ => match Nat.beq τ.sz j.size with
      | true => some (τ, j)
      | false => none
theorem rowTy_some {P : Program} {e : TypeId} {τ : Ty} {j : TI} (h : rowTy P e = some (τ, j)) : ti P e = some j ∧ τ.sz = j.size := by
  unfold rowTy at h
  split at h
  · cases h
  rename_i j' hj
  split at h
  · cases h
  split at h
  · rename_i hb; cases h; exact ⟨hj, Nat.eq_of_beq_eq_true hb⟩
  · cases h

/-- Rows of a slice that is built. -/
def rowsT (τ : Ty) : List TV → Option (List τ.el)
  | [] => some []
  | v :: vs => match rowT τ v with
    | some x => match rowsT τ vs with
      | some xs => some (x :: xs)
      | none => none
    | none => none

def buildSliceT (P : Program) (t : TypeId) (len : Nat) (parts : List (Nat × TV)) (K : (τ : Ty) → List τ.el → Option R) : Option R :=
  (ti P t).bind fun i => match i.desc with
    | .slice e => (rowTy P e).bind fun (τ, _) =>
      if parts.map (·.1) = List.range len ∧ len * (τ.sz + 1) ≤ 2 ^ 24 then (rowsT τ (parts.map (·.2))).bind (K τ) else none
    | _ => none
theorem rowTs {τ : Ty} (blk : Blk) : ∀ {vs : List TV} {rows : List τ.el}, rowsT τ vs = some rows → (vs.map TV.den).mapM (rowOf blk τ.sz) = some (rows.map (encC τ)) ∧ rows.length = vs.length
  | [], rows, h => by cases h; exact ⟨rfl, rfl⟩
  | v :: vs, rows, h => by
    simp only [rowsT] at h
    split at h
    · rename_i x hx
      split at h
      · rename_i xs hxs
        cases h
        obtain ⟨h1, h2⟩ := rowTs blk hxs
        exact ⟨by rw [List.map_cons, List.mapM_cons, rowT_row hx blk, h1]; rfl, by simp [h2]⟩
      · cases h
    · cases h
theorem buildSliceT_ok {P : Program} {t : TypeId} {len : Nat} {parts : List (Nat × TV)} {K : (τ : Ty) → List τ.el → Option R} {x : R} (h : buildSliceT P t len parts K = some x) :
    ∃ τ rows, buildSliceA P t len (parts.map fun q => (q.1, q.2.den)) = some (τ.sz, rows.map (encC τ)) ∧ rows.length = len ∧ K τ rows = some x := by
  replace h := bindT_some h
  obtain ⟨i, hi, h⟩ := h
  simp only [buildSliceA, hi, Option.bind_some]
  split at h
  case h_2 => cases h
  rename_i e hd
  replace h := bindT_some h
  obtain ⟨⟨τ, j⟩, hj, h⟩ := h
  obtain ⟨hj, hs⟩ := rowTy_some hj
  simp only at h
  split at h
  · rename_i hc
    replace h := bindT_some h
    obtain ⟨rows, hr, h⟩ := h
    rw [hd]
    simp only [hj, Option.bind_some]
    have h1 : (parts.map fun q => (q.1, q.2.den)).map (·.1) = parts.map (·.1) := by simp [Function.comp_def]
    have h2 : (parts.map fun q => (q.1, q.2.den)).map (·.2) = (parts.map (·.2)).map TV.den := by simp [Function.comp_def]
    rw [if_pos (by rw [h1, ← hs]; exact hc), h2, ← hs, (rowTs _ hr).1]
    refine ⟨τ, rows, rfl, ?_, h⟩
    have := (rowTs (fun _ => none) hr).2
    have := congrArg List.length hc.1
    simp at *; omega
  · cases h

theorem view_ofVal (live : Bool) (blk : Blk) (n : Nat) (v : Value) : view live blk (n + 1) (ofVal v) = some (ofValP v) := by
  unfold ofVal
  split
  · rfl
  · rename_i h
    simp only [view]
    unfold ofValP
    split
    · exact (h rfl).elim
    · rfl
theorem zeroRow_enc {τ : Ty} {j : TI} {z : τ.el} (h : capC τ (j.zero.map ofValT) = some (z, [])) : zeroRow j = encC τ z := by
  obtain ⟨pre, e, k⟩ := capC_view _ _ _ _ h
  rw [List.append_nil] at e; subst e
  have := k false (fun _ => none) 0
  rw [zero_den] at this
  have key : ∀ l : List Value, (l.map ofVal).mapM (view false (fun _ => none) 1) = some (l.map ofValP) := by
    intro l
    induction l with
    | nil => rfl
    | cons v l ih => rw [List.map_cons, List.mapM_cons, ih, view_ofVal]; rfl
  rw [key] at this
  exact Option.some.inj this

def sameOp : Operand → Operand → Bool
  | .tmp a, .tmp b => Nat.beq a b
  | .const (.int k a), .const (.int k' b) => match decEq k k', decEq a b with
    | isTrue _, isTrue _ => true
    | _, _ => false
  | _, _ => false

def makeSliceT (P : Program) (t : TypeId) (same : Bool) (l c : Int) (K : (τ : Ty) → List τ.el → Bool → Option R) : Option R :=
  (ti P t).bind fun i => match i.desc with
    | .slice e => (rowTy P e).bind fun (τ, j) => match j.zero.all cellish && Nat.beq j.zero.length j.size, capC τ (j.zero.map ofValT) with
      | true, some (z, []) => match same with
        | true => guardT (0 ≤ l ∧ l * (j.bytes + 1) ≤ 2 ^ 40) (K τ (List.replicate l.toNat z) true)
        | false => guardT (0 ≤ l ∧ l ≤ c ∧ c * (j.bytes + 1) ≤ 2 ^ 40) (K τ (List.replicate c.toNat z) false)
      | _, _ => none
    | _ => none
theorem makeSliceT_ok {P : Program} {t : TypeId} {same : Bool} {l c : Int} {K : (τ : Ty) → List τ.el → Bool → Option R} {x : R} (h : makeSliceT P t same l c K = some x) (hs : same = true → l = c) :
    ∃ τ rows, makeSliceA P t l c = some (τ.sz, rows.map (encC τ)) ∧ (same = true → rows.length = l.toNat) ∧ K τ rows same = some x := by
  replace h := bindT_some h
  obtain ⟨i, hi, h⟩ := h
  simp only [makeSliceA, hi, Option.bind_some]
  split at h
  case h_2 => cases h
  rename_i e hd
  replace h := bindT_some h
  obtain ⟨⟨τ, j⟩, hj, h⟩ := h
  obtain ⟨hj, hsz⟩ := rowTy_some hj
  simp only at h
  split at h
  case h_2 => cases h
  rename_i z hz1 hz2
  simp only [Bool.and_eq_true] at hz1
  have hzr := zeroRow_enc hz2
  rw [hd]
  simp only [hj, Option.bind_some]
  split at h
  · replace h := guardT_some h
    obtain ⟨h0, h⟩ := h
    have e := hs rfl
    subst e
    rw [if_pos ⟨h0.1, by omega, h0.2, Nat.eq_of_beq_eq_true hz1.2, hz1.1⟩]
    exact ⟨τ, _, by rw [List.map_replicate, hzr, hsz], by simp, h⟩
  · replace h := guardT_some h
    obtain ⟨h0, h⟩ := h
    rw [if_pos ⟨h0.1, h0.2.1, h0.2.2, Nat.eq_of_beq_eq_true hz1.2, hz1.1⟩]
    exact ⟨τ, _, by rw [List.map_replicate, hzr, hsz], by simp, h⟩

/-- Operations that ask nothing of the blocks. -/
def semNT (P : Program) (r : Ref) (ρ : Operand → TV) (op : Op) (K : TV → Option TB → Option R) : Option R :=
  match op with
  | .move x | .assign x => K (unraw (ρ x)) none
  | .pick c a b => match ρ c with
    | .raw (.bool t) => K (cond t (ρ a) (ρ b)) none
    | .dat .bool t => pickT t (ρ a) (ρ b) fun v => K v none
    | _ => none
  | .alloc e => (ti P e).bind fun i => if i.zero.all cellish then K (.ptr r 0) (some (.vars (i.zero.map ofValT))) else none
  | .box _ x => (avCellsT (ρ x)).bind fun cs => K (.ptr r 0) (some (.vars cs))
  | .build t parts => (buildT P t (parts.toList.map fun (i, x) => (i, ρ x))).bind fun v => K v none
  | .buildSlice t len parts => buildSliceT P t len (parts.toList.map fun (i, x) => (i, ρ x)) fun τ rows => K (.slw r τ.sz len) (some (.arr τ rows))
  | .nilCheck x => match ρ x with
    | .ptr q o => K (.ptr q o) none
    | .eptr q i o => K (.eptr q i o) none
    | .epd τ y o => K (.epd τ y o) none
    | .clo (.func f) a b => K (.clo (.func f) a b) none
    | _ => none
  | .binOp op t x y _ => binT P op t (ρ x) (ρ y) fun v => K v none
  | .unOp op _ x => unT op (ρ x) fun v => K v none
  | .convert src dst x => convertT P src dst (ρ x) fun v => K v none
  | .makeInterface t x => (ti P t).bind fun i => match i.desc with
    | .interface _ => none
    | _ => K (.iface t (ρ x)) none
  | .makeFunc fn first captured => K (.clo fn (first.toList.map ρ) (captured.toList.map ρ)) none
  | .makeSlice t l c => (asIntT (ρ l)).bind fun n => (asIntT (ρ c)).bind fun m => makeSliceT P t (sameOp l c) n m fun τ rows whole => match whole with
    | true => K (.slw r τ.sz n.toNat) (some (.arr τ rows))
    | false => K (.sl r τ.sz 0 n.toNat) (some (.arr τ rows))
  | .slice t x lo hi none => sliceT P t (ρ x) (lo.map ρ) (hi.map ρ) fun v => K v none
  | .fieldAddr s x f => (fieldAddrT P s (ρ x) f).bind fun v => K v none
  | .field t x f => (fieldT P t (ρ x) f).bind fun v => K v none
  | .indexAddr t x ix => indexAddrT P t (ρ x) (ρ ix) fun v => K v none
  | .index t x ix => indexT P t (ρ x) (ρ ix) fun v => K v none
  | .extract t ix => match ρ t with
    | .tup vs => (vs[ix]?).bind fun v => K v none
    | .tupd ds => (ds[ix]?).bind fun
      | (true, ⟨τ, y⟩) => K (.sdat τ y) none
      | (false, ⟨τ, y⟩) => K (.dat τ y) none
    | _ => none
  | .call { callee := .builtin .len, args, argTypes } => (argTypes[0]?).bind fun t => (args[0]?).bind fun x => lenT P t (ρ x) fun v => K v none
  | .call { callee := .builtin .min, args, .. } => match args.toList.map ρ with
    | [.dat (.int k) a, .dat (.int _) b] => K (.dat (.int k) (if b < a then b else a)) none
    | _ => none
  | .call { callee := .builtin .max, args, .. } => match args.toList.map ρ with
    | [.dat (.int k) a, .dat (.int _) b] => K (.dat (.int k) (if b > a then b else a)) none
    | _ => none
  | _ => none

def newL (L : Ref → Nat → Prop) (r : Ref) (B : Option TB) : Ref → Nat → Prop := fun q n => L q n ∨ (q = r ∧ ∃ τ rows, B = some (.arr τ rows) ∧ n = rows.length)

def NR (P : Program) (L : Ref → Nat → Prop) (r : Ref) (ρ : Operand → AV) (op : Op) (K : TV → Option TB → Option R) (x : R) : Prop :=
  ∃ v B, semN P r ρ op = some (TV.den v, B.map TB.den) ∧ K v B = some x ∧ okV (newL L r B) v ∧ ∀ cs, B = some (.vars cs) → okVs L cs

theorem semNT_ok {P : Program} {r : Ref} {ρ : Operand → TV} {op : Op} {K : TV → Option TB → Option R} {x : R} {L : Ref → Nat → Prop} (hρ : ∀ o, okV L (ρ o)) (h : semNT P r ρ op K = some x) :
    NR P L r (fun o => (ρ o).den) op K x := by
  have val : ∀ {v : TV}, okV L v → okV (newL L r none) v := fun hv => okV.mono (fun _ _ k => .inl k) _ hv
  have nov : ∀ cs, (none : Option TB) = some (.vars cs) → okVs L cs := fun _ e => by cases e
  unfold semNT at h
  split at h
  case h_1 a => exact ⟨_, none, by simp only [semN, unraw_den, Option.map_none], h, val (unraw_ok (hρ a)), nov⟩
  case h_2 a => exact ⟨_, none, by simp only [semN, unraw_den, Option.map_none], h, val (unraw_ok (hρ a)), nov⟩
  case h_3 c a b =>
    split at h
    · rename_i t e
      refine ⟨_, none, ?_, h, val (by cases t; exact hρ b; exact hρ a), nov⟩
      simp only [semN, e, TV.den, asBool, Option.map_some, Option.map_none]
      cases t <;> rfl
    · rename_i t e
      obtain ⟨v, e2, ho, h⟩ := pickT_ok h (hρ a) (hρ b)
      exact ⟨v, none, by simp only [semN, e, TV.den, encL, asBool, Option.map_some, e2, Option.map_none], h, val ho, nov⟩
    · cases h
  case h_4 e =>
    replace h := bindT_some h
    obtain ⟨i, hi, h⟩ := h
    split at h
    · rename_i hz
      exact ⟨_, _, by simp only [semN, hi, Option.bind_some]; rw [if_pos hz]; simp only [TV.den, Option.map_some, TB.den, TV.dens_eq, zero_den], h, by simp only [okV], fun cs e => by cases e; exact okVs_iff.2 (zero_ok L _)⟩
    · cases h
  case h_5 a =>
    replace h := bindT_some h
    obtain ⟨cs, hc, h⟩ := h
    exact ⟨_, _, by simp only [semN, avCellsT_den, hc, Option.map_some, TV.den, TB.den, TV.dens_eq], h, by simp only [okV], fun cs e => by cases e; exact okVs_iff.2 (avCellsT_ok hc (hρ a))⟩
  case h_6 t parts =>
    replace h := bindT_some h
    obtain ⟨v, hv, h⟩ := h
    obtain ⟨h1, h2⟩ := buildT_ok (L := L) hv (by
      intro q hq; obtain ⟨⟨i, o⟩, _, rfl⟩ := List.mem_map.1 hq; exact hρ o)
    refine ⟨v, none, ?_, h, val h2, nov⟩
    simp only [List.map_map, Function.comp_def] at h1
    simp only [semN, h1, Option.map_some, Option.map_none]
  case h_7 t len parts =>
    obtain ⟨τ, rows, h1, h2, h⟩ := buildSliceT_ok h
    refine ⟨_, _, ?_, h, ?_, fun cs e => by cases e⟩
    · simp only [List.map_map, Function.comp_def] at h1
      simp only [semN, h1, Option.map_some, TV.den, TB.den]
    · simp only [okV]; exact .inr ⟨rfl, τ, rows, rfl, h2.symm⟩
  case h_8 a =>
    have ho := hρ a
    split at h
    case h_5 => cases h
    all_goals
      rename_i e
      rw [e] at ho
      exact ⟨_, none, by simp only [semN, e, TV.den]; rfl, h, val ho, nov⟩
  case h_9 =>
    obtain ⟨u, v, e1, e2, e3, h⟩ := binT_ok h
    exact ⟨v, none, by simp only [semN, e1, e2, Option.map_some, Option.map_none], h, e3 _, nov⟩
  case h_10 =>
    obtain ⟨u, v, e1, e2, e3, h⟩ := unT_ok h
    exact ⟨v, none, by simp only [semN, e1, e2, Option.map_some, Option.map_none], h, e3 _, nov⟩
  case h_11 =>
    obtain ⟨v, e1, e2, h⟩ := convertT_ok (L := L) h
    exact ⟨v, none, by simp only [semN, e1, Option.map_some, Option.map_none], h, val e2, nov⟩
  case h_12 t a =>
    replace h := bindT_some h
    obtain ⟨i, hi, h⟩ := h
    split at h
    · cases h
    · rename_i hni
      refine ⟨_, none, ?_, h, val (v := .iface t (ρ a)) (by simp only [okV]; exact hρ a), nov⟩
      simp only [semN, hi, Option.bind_some, TV.den, Option.map_none]
  case h_13 fn first captured =>
    refine ⟨_, none, ?_, h, val ?_, nov⟩
    · simp only [semN, TV.den, TV.dens_eq, List.map_map, Function.comp_def, Option.map_none]
    · simp only [okV]
      constructor <;> (rw [okVs_iff]; intro v hv; obtain ⟨o, _, rfl⟩ := List.mem_map.1 hv; exact hρ o)
  case h_14 t l c =>
    replace h := bindT_some h
    obtain ⟨n, hn, h⟩ := h
    replace h := bindT_some h
    obtain ⟨m, hm, h⟩ := h
    obtain ⟨τ, rows, h1, h2, h⟩ := makeSliceT_ok h (by
      intro hs
      unfold sameOp at hs
      split at hs
      · rw [Nat.eq_of_beq_eq_true hs] at hn; rw [hn] at hm; exact Option.some.inj hm
      · split at hs
        · rename_i e1 e2 _ _; subst e1; subst e2; rw [hn] at hm; exact Option.some.inj hm
        · cases hs
      · cases hs)
    split at h
    · refine ⟨_, _, ?_, h, ?_, fun cs e => by cases e⟩
      · simp only [semN, asIntT_den hn, asIntT_den hm, Option.bind_some, h1, Option.map_some, TV.den, TB.den]
      · rename_i e; simp only [okV]; exact .inr ⟨rfl, τ, rows, rfl, (h2 e).symm⟩
    · refine ⟨_, _, ?_, h, ?_, fun cs e => by cases e⟩
      · simp only [semN, asIntT_den hn, asIntT_den hm, Option.bind_some, h1, Option.map_some, TV.den, TB.den]
      · simp only [okV]
  case h_15 t a lo hi =>
    obtain ⟨v, e1, e2, h⟩ := sliceT_ok (L := L) h (hρ a)
    refine ⟨v, none, ?_, h, val e2, nov⟩
    simp only [Option.map_map, Function.comp_def] at e1
    simp only [semN, e1, Option.map_some, Option.map_none]
  case h_16 =>
    replace h := bindT_some h
    obtain ⟨v, hv, h⟩ := h
    obtain ⟨h1, h2⟩ := fieldAddrT_ok hv
    exact ⟨v, none, by simp only [semN, h1, Option.map_some, Option.map_none], h, h2 _, nov⟩
  case h_17 t a f =>
    replace h := bindT_some h
    obtain ⟨v, hv, h⟩ := h
    obtain ⟨h1, h2⟩ := fieldT_ok hv (hρ a)
    exact ⟨v, none, by simp only [semN, h1, Option.map_some, Option.map_none], h, val h2, nov⟩
  case h_18 =>
    obtain ⟨v, e1, e2, h⟩ := indexAddrT_ok (L := L) h
    exact ⟨v, none, by simp only [semN, e1, Option.map_some, Option.map_none], h, val e2, nov⟩
  case h_19 t a ix =>
    obtain ⟨v, e1, e2, h⟩ := indexT_ok (L := L) h (hρ a)
    exact ⟨v, none, by simp only [semN, e1, Option.map_some, Option.map_none], h, val e2, nov⟩
  case h_20 t ix =>
    have ho := hρ t
    split at h
    · rename_i vs e
      rw [e] at ho
      replace h := bindT_some h
      obtain ⟨v, hv, h⟩ := h
      refine ⟨v, none, ?_, h, val ?_, nov⟩
      · simp only [semN, e, TV.den, TV.dens_eq, List.getElem?_map, hv, Option.map_some, Option.map_none]
      · simp only [okV] at ho; exact okVs_iff.1 ho v (List.mem_of_getElem? hv)
    · rename_i ds e
      replace h := bindT_some h
      obtain ⟨⟨b, τ, y⟩, hv, h⟩ := h
      cases b
      · refine ⟨_, none, ?_, h, by simp only [okV], nov⟩
        simp only [semN, e, TV.den, List.getElem?_map, hv, Option.map_some, Option.map_none, resPD]
      · refine ⟨_, none, ?_, h, by simp only [okV], nov⟩
        simp only [semN, e, TV.den, List.getElem?_map, hv, Option.map_some, Option.map_none, resPD]
    · cases h
  case h_21 =>
    replace h := bindT_some h
    obtain ⟨t, ht, h⟩ := h
    replace h := bindT_some h
    obtain ⟨a, ha, h⟩ := h
    obtain ⟨n, hn, h⟩ := lenT_ok h
    exact ⟨_, none, by simp only [semN, ht, ha, Option.bind_some, hn, Option.map_some, TV.den, encL, Option.map_none], h, by simp only [okV], nov⟩
  case h_22 =>
    split at h
    · rename_i k a k' b e
      have e2 := congrArg (List.map TV.den) e
      simp only [List.map_map, Function.comp_def, List.map_cons, List.map_nil, TV.den, encL] at e2
      exact ⟨_, none, by simp only [semN, e2, minV, Option.map_some, TV.den, encL, Option.map_none], h, by simp only [okV], nov⟩
    · cases h
  case h_23 =>
    split at h
    · rename_i k a k' b e
      have e2 := congrArg (List.map TV.den) e
      simp only [List.map_map, Function.comp_def, List.map_cons, List.map_nil, TV.den, encL] at e2
      exact ⟨_, none, by simp only [semN, e2, maxV, Option.map_some, TV.den, encL, Option.map_none], h, by simp only [okV], nov⟩
    · cases h
  case h_24 => cases h
end
end Go.Abs

/- Operations that read and write blocks. -/
namespace Go.Abs
open Go.RowKit

section
variable {R : Type}

theorem lenOk.whole {blk : TBlk} {r : Ref} {n : Nat} (h : lenOk blk r n) {τ : Ty} {rows : List τ.el} (hr : blk r = some (.arr τ rows) ∨ blk r = some (.fro τ rows)) : n = rows.length := h.2 τ rows hr

def rowsOfB : Option TB → Option ((τ : Ty) × List τ.el)
  | some (.arr τ rows) => some ⟨τ, rows⟩
  | some (.fro τ rows) => some ⟨τ, rows⟩
  | _ => none
theorem rowsOfB_some {B : Option TB} {τ : Ty} {rows : List τ.el} (h : rowsOfB B = some ⟨τ, rows⟩) : B = some (.arr τ rows) ∨ B = some (.fro τ rows) := by
  unfold rowsOfB at h; split at h <;> cases h
  · exact .inl rfl
  · exact .inr rfl

def cellsT (blk : TBlk) (n : Nat) (v : TV) (K : List TV → Option R) : Option R :=
  match v with
  | .ptr r off => match blk r with
    | some (.vars cs) => (window cs off n).bind K
    | _ => none
  | .eptr r row off => match rowsOfB (blk r) with
    | some ⟨τ, rows⟩ => (rows[row]?).bind fun y => (window (explode τ y) off n).bind K
    | none => none
  | .epd τ y off => (window (explode τ y) off n).bind K
  | _ => none
theorem cellsT_ok {blk : TBlk} {n : Nat} {v : TV} {K : List TV → Option R} {x : R} (h : cellsT blk n v K = some x) (hb : ∀ r cs, blk r = some (.vars cs) → okVs (lenOk blk) cs) :
    ∃ cs, cellsA (denB blk) n v.den = some (cs.map TV.den) ∧ (∀ c ∈ cs, okV (lenOk blk) c) ∧ K cs = some x := by
  unfold cellsT at h
  split at h
  · rename_i r off
    split at h
    · rename_i cs hr
      replace h := bindT_some h
      obtain ⟨ws, hw, h⟩ := h
      refine ⟨ws, ?_, fun c hc => okVs_iff.1 (hb r cs hr) c (window_mem hw c hc), h⟩
      simp only [TV.den, cellsA, denB, hr, Option.map_some, TB.den, TV.dens_eq, window_map, hw]
    · cases h
  · rename_i r row off
    split at h
    · rename_i τ rows hr
      replace h := bindT_some h
      obtain ⟨y, hy, h⟩ := h
      replace h := bindT_some h
      obtain ⟨ws, hw, h⟩ := h
      refine ⟨ws, ?_, fun c hc => explode_ok _ _ _ c (window_mem hw c hc), h⟩
      have key : ((rows.map (encC τ))[row]?).bind (fun cs => (window cs off n).map (·.map AV.pd)) = some (ws.map TV.den) := by
        simp only [List.getElem?_map, hy, Option.map_some, Option.bind_some]
        have := window_map TV.den (explode τ y) off n
        rw [explode_den, window_map, hw] at this
        simpa using this
      rcases rowsOfB_some hr with hr | hr
      · simp only [TV.den, cellsA, denB, hr, Option.map_some, TB.den]; exact key
      · simp only [TV.den, cellsA, denB, hr, Option.map_some, TB.den]; exact key
    · cases h
  · rename_i τ y off
    replace h := bindT_some h
    obtain ⟨ws, hw, h⟩ := h
    refine ⟨ws, ?_, fun c hc => explode_ok _ _ _ c (window_mem hw c hc), h⟩
    simp only [TV.den, cellsA]
    have := window_map TV.den (explode τ y) off n
    rw [explode_den, window_map, hw] at this
    simpa using this
  · cases h

def loadT (P : Program) (blk : TBlk) (t : TypeId) (v : TV) (K : TV → Option R) : Option R :=
  (ti P t).bind fun i => cellsT blk i.size v fun cs => match TypeDesc.agg i.desc with
    | true => K (.agg cs)
    | false => match cs with
      | [c] => K c
      | _ => none
theorem loadT_ok {P : Program} {blk : TBlk} {t : TypeId} {a : TV} {K : TV → Option R} {x : R} (h : loadT P blk t a K = some x) (hb : ∀ r cs, blk r = some (.vars cs) → okVs (lenOk blk) cs) :
    AvR (loadA P (denB blk) t a.den) (lenOk blk) K x := by
  replace h := bindT_some h
  obtain ⟨i, hi, h⟩ := h
  obtain ⟨cs, h1, h2, h⟩ := cellsT_ok h hb
  simp only [loadA, hi, Option.bind_some, h1]
  split at h
  · rename_i ha
    rw [if_pos ha]
    exact ⟨_, by simp only [TV.den, TV.dens_eq], by simp only [okV]; exact okVs_iff.2 h2, h⟩
  · rename_i ha
    rw [if_neg (by simp [ha])]
    split at h
    · exact ⟨_, rfl, h2 _ (by simp), h⟩
    · cases h

/-- What is appended or copied. -/
def srcT (blk : TBlk) (τ : Ty) (v : TV) (K : List τ.el → Option R) : Option R :=
  match v with
  | .nil => K []
  | .dat (.sl τ') l => (Ty.cast (.sl τ') (.sl τ) l).bind K
  | .dat .str s => (Ty.cast (.sl (.int .u8)) (.sl τ) (s.map fun b => (b.toNat : Int))).bind K
  | .slw r _ _ => match rowsOfB (blk r) with
    | some ⟨τ', rows⟩ => (Ty.cast (.sl τ') (.sl τ) rows).bind K
    | none => none
  | .sl r _ off n => match rowsOfB (blk r) with
    | some ⟨τ', rows⟩ => (Ty.cast (.sl τ') (.sl τ) rows).bind fun rows => guardT (off + n ≤ rows.length) (K ((rows.drop off).take n))
    | none => none
  | _ => none

theorem castSl {τ' τ : Ty} {l : List τ'.el} {l2 : List τ.el} (h : Ty.cast (.sl τ') (.sl τ) l = some l2) : l2.map (encC τ) = l.map (encC τ') ∧ l2.length = l.length ∧ τ' = τ := by
  obtain ⟨e, h⟩ := Ty.cast_some h
  cases e; cases h; exact ⟨rfl, rfl, rfl⟩

theorem denB_rows {blk : TBlk} {r : Ref} {τ : Ty} {rows : List τ.el} (hr : blk r = some (.arr τ rows) ∨ blk r = some (.fro τ rows)) :
    denB blk r = some (.arr τ.sz (rows.map (encC τ))) ∨ denB blk r = some (.fro τ.sz (rows.map (encC τ))) := by
  rcases hr with hr | hr
  · left; simp only [denB, hr, Option.map_some, TB.den]
  · right; simp only [denB, hr, Option.map_some, TB.den]

theorem srcT_ok {blk : TBlk} {τ : Ty} {a : TV} {K : List τ.el → Option R} {x : R} (h : srcT blk τ a K = some x) (ha : okV (lenOk blk) a) :
    ∃ l, srcA (denB blk) a.den = some (l.map (encC τ)) ∧ K l = some x := by
  unfold srcT at h
  split at h
  · exact ⟨[], rfl, h⟩
  · replace h := bindT_some h
    obtain ⟨l, hl, h⟩ := h
    exact ⟨l, by simp only [TV.den, encL, srcA, (castSl hl).1], h⟩
  · rename_i s
    replace h := bindT_some h
    obtain ⟨l, hl, h⟩ := h
    refine ⟨l, ?_, h⟩
    rw [(castSl hl).1]
    simp only [TV.den, encL, srcA, List.map_map]
    rfl
  · rename_i r sz n
    split at h
    · rename_i τ' rows hr
      replace h := bindT_some h
      obtain ⟨l, hl, h⟩ := h
      have hr := rowsOfB_some hr
      simp only [okV] at ha
      have hn := ha.whole hr
      refine ⟨l, ?_, h⟩
      have hw : window (rows.map (encC τ')) 0 n = some (l.map (encC τ)) := by
        unfold window
        rw [if_pos (by simp [hn]), (castSl hl).1]
        simp [hn, List.take_of_length_le]
      rcases denB_rows hr with e | e <;> simp only [TV.den, srcA, e, hw]
    · cases h
  · rename_i r sz off n
    split at h
    · rename_i τ' rows hr
      replace h := bindT_some h
      obtain ⟨l, hl, h⟩ := h
      replace h := guardT_some h
      obtain ⟨hg, h⟩ := h
      have hr := rowsOfB_some hr
      refine ⟨_, ?_, h⟩
      have hw : window (rows.map (encC τ')) off n = some (((l.drop off).take n).map (encC τ)) := by
        unfold window
        have := castSl hl
        rw [if_pos (by simp [← this.2.1]; exact hg), ← this.1]
        simp [List.map_take, List.map_drop]
      rcases denB_rows hr with e | e <;> simp only [TV.den, srcA, e, hw]
    · cases h
  · cases h

theorem explode_view (live : Bool) (blk : Blk) (n : Nat) (τ : Ty) (x : τ.el) : ((explode τ x).map TV.den).mapM (view live blk (n + 1)) = some (encC τ x) := by
  rw [explode_den]
  generalize encC τ x = l
  induction l with
  | nil => rfl
  | cons d l ih => rw [List.map_cons, List.mapM_cons, ih]; rfl

theorem mapM_splice {α β : Type} {f : α → Option β} {cs new cs' : List α} {ds : List β} {off : Nat} (hs : splice cs off new = some cs') (hc : cs.mapM f = some ds) {r : List β} (hr : cs'.mapM f = some r) :
    ∃ es, new.mapM f = some es ∧ splice ds off es = some r := by
  unfold splice at hs
  split at hs <;> cases hs
  rename_i hlen
  rw [List.mapM_append, List.mapM_append] at hr
  simp only [Option.bind_eq_bind, Option.bind_eq_some_iff] at hr
  obtain ⟨p, ⟨p1, h1, p2, h2, e⟩, p3, h3, e2⟩ := hr
  cases e; cases e2
  have hsplit : cs.mapM f = (do let a ← (cs.take off).mapM f; let b ← (cs.drop off).mapM f; pure (a ++ b)) := by
    rw [← List.mapM_append, List.take_append_drop]
  rw [hc, h1] at hsplit
  have hd : cs.drop off = ((cs.drop off).take new.length) ++ cs.drop (off + new.length) := by
    rw [← List.drop_drop, List.take_append_drop]
  rw [hd, List.mapM_append, h3] at hsplit
  cases hq : ((cs.drop off).take new.length).mapM f with
  | none => rw [hq] at hsplit; cases hsplit
  | some q =>
    rw [hq] at hsplit
    have hde : ds = p1 ++ (q ++ p3) := Option.some.inj hsplit
    have l1 := (mapM_get h1).1
    have lq := (mapM_get hq).1
    have l2 := (mapM_get h2).1
    have l3 := (mapM_get h3).1
    have lc := (mapM_get hc).1
    simp at l1 lq l3
    refine ⟨p2, h2, ?_⟩
    unfold splice
    rw [if_pos (by omega), hde]
    have e1 : p1.length = off := by omega
    have e2 : q.length = p2.length := by omega
    congr 2
    · rw [List.take_append_of_le_length (by omega), List.take_of_length_le (by omega)]
    · rw [List.drop_append, List.drop_of_length_le (by omega), List.nil_append, List.drop_append, List.drop_of_length_le (by omega), List.nil_append]
      rw [show off + p2.length - p1.length - q.length = 0 by omega, List.drop_zero]

def storeT (P : Program) (blk : TBlk) (t : TypeId) (a v : TV) (K : TBlk → Option R) : Option R :=
  (ti P t).bind fun i => (avCellsT v).bind fun new => if new.length = i.size then
    match a with
    | .ptr r off => match blk r with
      | some (.vars cs) => (splice cs off new).bind fun cs' => K (upd blk r (some (.vars cs')))
      | _ => none
    | .eptr r row off => match blk r with
      | some (.arr τ rows) => (rows[row]?).bind fun y => (splice (explode τ y) off new).bind fun cs => match capC τ cs with
        | some (z, []) => K (upd blk r (some (.arr τ (rows.set row z))))
        | _ => none
      | _ => none
    | _ => none
  else none

/-- Blocks that are changed so that whole slices stay whole. -/
theorem TBlk.okL {blk : TBlk} {r : Ref} {B : TB} (hB : ∀ τ rows, B = .arr τ rows ∨ B = .fro τ rows → ∀ n, lenOk blk r n → n = rows.length) : ∀ q n, lenOk blk q n → lenOk (upd blk r (some B)) q n := by
  intro q n h
  refine ⟨by unfold upd; split <;> simp_all [lenOk], fun τ rows hq => ?_⟩
  by_cases e : q = r
  · subst e
    rw [upd_same] at hq
    exact hB τ rows (by simpa using hq) n h
  · rw [upd_ne _ _ e] at hq; exact h.2 τ rows hq
theorem TBlk.okB {blk : TBlk} {r : Ref} {B : TB} (hb : ∀ r cs, blk r = some (.vars cs) → okVs (lenOk blk) cs) (hL : ∀ q n, lenOk blk q n → lenOk (upd blk r (some B)) q n)
    (hB : ∀ cs, B = .vars cs → okVs (lenOk (upd blk r (some B))) cs) : ∀ q cs, upd blk r (some B) q = some (.vars cs) → okVs (lenOk (upd blk r (some B))) cs := by
  intro q cs hq
  by_cases e : q = r
  · subst e; rw [upd_same] at hq; exact hB cs (by simpa using hq)
  · rw [upd_ne _ _ e] at hq; exact okVs.mono hL cs (hb q cs hq)

/-- What an operation does that writes: the blocks behind it. -/
def WR (blk : TBlk) (o : Option Blk) (K : TBlk → Option R) (x : R) : Prop :=
  ∃ blk', o = some (denB blk') ∧ (∀ q n, lenOk blk q n → lenOk blk' q n) ∧ (∀ q cs, blk' q = some (.vars cs) → okVs (lenOk blk') cs) ∧ K blk' = some x

theorem storeT_ok {P : Program} {blk : TBlk} {t : TypeId} {a v : TV} {K : TBlk → Option R} {x : R} (h : storeT P blk t a v K = some x) (hv : okV (lenOk blk) v) (hb : ∀ r cs, blk r = some (.vars cs) → okVs (lenOk blk) cs) :
    WR blk (storeA P (denB blk) t a.den v.den) K x := by
  replace h := bindT_some h
  obtain ⟨i, hi, h⟩ := h
  replace h := bindT_some h
  obtain ⟨new, hnew, h⟩ := h
  split at h
  case isFalse => cases h
  rename_i hl
  simp only [storeA, hi, Option.bind_some, avCellsT_den, hnew, Option.map_some, List.length_map]
  rw [if_pos hl]
  split at h
  · rename_i r off
    split at h
    · rename_i cs hr
      replace h := bindT_some h
      obtain ⟨cs', hs, h⟩ := h
      have hL : ∀ q n, lenOk blk q n → lenOk (upd blk r (some (TB.vars cs'))) q n := TBlk.okL (fun τ rows e => by rcases e with e | e <;> cases e)
      refine ⟨_, ?_, hL, TBlk.okB hb hL (fun cs2 e => ?_), h⟩
      · simp only [TV.den, denB_upd, TB.den, TV.dens_eq]
        have : denB blk r = some (.vars (cs.map TV.den)) := by simp only [denB, hr, Option.map_some, TB.den, TV.dens_eq]
        rw [this]
        simp only [splice_map, hs, Option.map_some]
      · cases e
        refine okVs.mono hL _ (okVs_iff.2 fun c hc => ?_)
        rcases splice_mem hs c hc with k | k
        · exact okVs_iff.1 (hb r cs hr) c k
        · exact avCellsT_ok hnew hv c k
    · cases h
  · rename_i r row off
    split at h
    · rename_i τ rows hr
      replace h := bindT_some h
      obtain ⟨y, hy, h⟩ := h
      replace h := bindT_some h
      obtain ⟨cs, hs, h⟩ := h
      split at h
      · rename_i z hz
        obtain ⟨pre, e, hk⟩ := capC_view _ _ _ _ hz
        rw [List.append_nil] at e; subst e
        have hL : ∀ q n, lenOk blk q n → lenOk (upd blk r (some (TB.arr τ (rows.set row z)))) q n := TBlk.okL (fun τ' rows' e n hn => by
          rcases e with e | e <;> cases e
          rw [hn.2 τ rows (.inl hr), List.length_set])
        refine ⟨_, ?_, hL, TBlk.okB hb hL (fun cs2 e => by cases e), h⟩
        have hview := hk false (denB blk) 7
        have hs' := splice_map TV.den (explode τ y) off new
        rw [hs] at hs'
        obtain ⟨es, he1, he2⟩ := mapM_splice hs' (explode_view false (denB blk) 7 τ y) hview
        have hblk : denB blk r = some (.arr τ.sz (rows.map (encC τ))) := by simp only [denB, hr, Option.map_some, TB.den]
        simp only [TV.den, hblk, he1, Option.bind_some, List.getElem?_map, hy, Option.map_some, he2, denB_upd, TB.den, List.map_set]
      · cases h
    · cases h
  · cases h

/-- A new name. -/
theorem TBlk.newL {blk : TBlk} {r : Ref} {B : TB} (hr : blk r = none) : ∀ q n, lenOk blk q n → lenOk (upd blk r (some B)) q n := by
  intro q n h
  have : q ≠ r := by rintro rfl; have := h.1; rw [hr] at this; cases this
  refine ⟨by rw [upd_ne _ _ this]; exact h.1, fun τ rows hq => ?_⟩
  rw [upd_ne _ _ this] at hq; exact h.2 τ rows hq
theorem lenOk_self {blk : TBlk} {r : Ref} {τ : Ty} {rows : List τ.el} {n : Nat} (hn : n = rows.length) : lenOk (upd blk r (some (.arr τ rows))) r n := by
  refine ⟨by rw [upd_same]; rfl, fun τ' rows' h => ?_⟩
  rw [upd_same] at h
  rcases h with h | h <;> cases h
  exact hn

def appendT (P : Program) (d : Nat) (blk : TBlk) (ts : List TypeId) (s x : TV) (K : TV → TBlk → Option R) : Option R :=
  (ts[0]?).bind fun t0 => (ts[1]?).bind fun t1 => (ti P t0).bind fun i => (ti P t1).bind fun i1 => match i.desc with
    | .slice e => (rowTy P e).bind fun (τ, j) => match isIntT i1.desc, decide (j.bytes ≤ 2 ^ 20 ∧ j.zero.length = j.size), blk (.loc d 0) with
      | false, true, none => srcT blk τ x fun new => match s with
        | .nil => guardT (new.length * (j.bytes + 1) ≤ 2 ^ 40) (K (.slw (.loc d 0) τ.sz new.length) (upd blk (.loc d 0) (some (.arr τ new))))
        | .slw r sz _ => match blk r with
          | some (.arr τ' rows) => match Nat.beq sz τ.sz with
            | true => (Ty.cast (.sl τ') (.sl τ) rows).bind fun (rows : List τ.el) => guardT ((rows.length + new.length) * (j.bytes + 1) ≤ 2 ^ 40)
              (K (.slw (.loc d 0) τ.sz (rows.length + new.length)) (upd (upd blk r (some .dead)) (.loc d 0) (some (.arr τ (rows ++ new)))))
            | false => none
          | _ => none
        | .sl r sz off n => match blk r with
          | some (.arr τ' rows) => match Nat.beq sz τ.sz with
            | true => (Ty.cast (.sl τ') (.sl τ) rows).bind fun (rows : List τ.el) => guardT (off + n ≠ rows.length ∧ off + n + new.length ≤ rows.length)
              (K (.sl r τ.sz off (n + new.length)) (upd blk r (some (.arr τ (rows.take (off + n) ++ new ++ rows.drop (off + n + new.length))))))
            | false => none
          | _ => none
        | _ => none
      | _, _, _ => none
    | _ => none

/-- .. and the value. -/
def WVR (blk : TBlk) (o : Option (AV × Blk)) (K : TV → TBlk → Option R) (x : R) : Prop :=
  ∃ v blk', o = some (TV.den v, denB blk') ∧ okV (lenOk blk') v ∧ (∀ q n, lenOk blk q n → lenOk blk' q n) ∧ (∀ q cs, blk' q = some (.vars cs) → okVs (lenOk blk') cs) ∧ K v blk' = some x

theorem appendT_ok {P : Program} {d : Nat} {blk : TBlk} {ts : List TypeId} {s a : TV} {K : TV → TBlk → Option R} {x : R} (h : appendT P d blk ts s a K = some x) (hs : okV (lenOk blk) s) (ha : okV (lenOk blk) a)
    (hb : ∀ r cs, blk r = some (.vars cs) → okVs (lenOk blk) cs) : WVR blk (appendA P d (denB blk) ts s.den a.den) K x := by
  replace h := bindT_some h
  obtain ⟨t0, ht0, h⟩ := h
  replace h := bindT_some h
  obtain ⟨t1, ht1, h⟩ := h
  replace h := bindT_some h
  obtain ⟨i, hi, h⟩ := h
  replace h := bindT_some h
  obtain ⟨i1, hi1, h⟩ := h
  simp only [appendA, ht0, ht1, hi, hi1, Option.bind_some]
  split at h
  case h_2 => cases h
  rename_i e hd
  replace h := bindT_some h
  obtain ⟨⟨τ, j⟩, hj, h⟩ := h
  obtain ⟨hj, hsz⟩ := rowTy_some hj
  simp only at h
  split at h
  case h_2 => cases h
  rename_i hint hz hnone
  simp only [decide_eq_true_eq] at hz
  replace h := srcT_ok h ha
  obtain ⟨new, hnew, h⟩ := h
  rw [hd]
  simp only [hj, Option.bind_some, hnew, hint, Bool.false_eq_true, if_false]
  rw [if_pos ⟨hz.1, hz.2, by simp [encC_length, hsz]⟩]
  have hnd : denB blk (.loc d 0) = none := denB_none.2 hnone
  cases s
  case nil =>
    replace h := guardT_some h
    obtain ⟨hg, h⟩ := h
    have hL : ∀ q n, lenOk blk q n → lenOk (upd blk (.loc d 0) (some (TB.arr τ new))) q n := TBlk.newL hnone
    refine ⟨_, _, ?_, ?_, hL, TBlk.okB hb hL (fun cs e => by cases e), h⟩
    · simp only [TV.den, List.length_map]
      rw [if_pos hg, hnd]
      simp only [denB_upd, TB.den, hsz]
    · simp only [okV]; exact lenOk_self rfl
  case slw r sz n =>
    simp only at h
    split at h
    · rename_i τ' rows hr
      split at h
      · rename_i hbeq
        have hbeq := Nat.eq_of_beq_eq_true hbeq
        replace h := bindT_some h
        obtain ⟨rows2, hc, h⟩ := h
        replace h := guardT_some h
        obtain ⟨hg, h⟩ := h
        obtain ⟨c1, c2, c3⟩ := castSl hc
        simp only [okV] at hs
        have hn := hs.whole (.inl hr)
        have hne : r ≠ .loc d 0 := by rintro rfl; rw [hnone] at hr; cases hr
        have hL1 : ∀ q n, lenOk blk q n → lenOk (upd blk r (some TB.dead)) q n := TBlk.okL (fun τ rows e => by rcases e with e | e <;> cases e)
        have hnone2 : upd blk r (some TB.dead) (.loc d 0) = none := by rw [upd_ne _ _ (Ne.symm hne)]; exact hnone
        have hL2 := TBlk.newL (blk := upd blk r (some TB.dead)) (r := .loc d 0) (B := TB.arr τ (rows2 ++ new)) hnone2
        refine ⟨_, _, ?_, ?_, fun q n k => hL2 q n (hL1 q n k), TBlk.okB (TBlk.okB hb hL1 (fun cs e => by cases e)) hL2 (fun cs e => by cases e), h⟩
        · have hblk : denB blk r = some (.arr τ'.sz (rows.map (encC τ'))) := by simp only [denB, hr, Option.map_some, TB.den]
          simp only [TV.den, hblk, List.length_map]
          subst c3
          rw [if_pos ⟨hsz, hbeq⟩, if_pos (by omega)]
          rw [if_pos (by rw [hn, ← c2]; exact hg), hnd]
          simp only [denB_upd, TB.den, List.drop_zero, ← c1, List.map_append, hn, c2]
        · simp only [okV]; exact lenOk_self (by simp)
      · cases h
    · cases h
  case sl r sz off n =>
    simp only at h
    split at h
    · rename_i τ' rows hr
      split at h
      · rename_i hbeq
        have hbeq := Nat.eq_of_beq_eq_true hbeq
        replace h := bindT_some h
        obtain ⟨rows2, hc, h⟩ := h
        replace h := guardT_some h
        obtain ⟨hg, h⟩ := h
        obtain ⟨c1, c2, c3⟩ := castSl hc
        subst c3
        have hL : ∀ q n', lenOk blk q n' → lenOk (upd blk r (some (TB.arr τ' (rows2.take (off + n) ++ new ++ rows2.drop (off + n + new.length))))) q n' := by
          refine TBlk.okL fun τ2 rows3 e m hm => ?_
          rcases e with e | e <;> cases e
          rw [hm.2 τ' rows (.inl hr), ← c2]
          simp only [List.length_append, List.length_take, List.length_drop]; omega
        refine ⟨_, _, ?_, by simp only [okV], hL, TBlk.okB hb hL (fun cs e => by cases e), h⟩
        have hblk : denB blk r = some (.arr τ'.sz (rows.map (encC τ'))) := by simp only [denB, hr, Option.map_some, TB.den]
        simp only [TV.den, hblk, List.length_map, ← c1]
        rw [if_pos ⟨hsz, hbeq⟩, if_neg (by simpa using hg.1), if_pos (by simpa using hg.2)]
        simp only [denB_upd, TB.den, List.map_append, List.map_take, List.map_drop, c1, hbeq]
      · cases h
    · cases h
  all_goals cases h

def clearT (P : Program) (blk : TBlk) (ts : List TypeId) (x : TV) (K : TV → TBlk → Option R) : Option R :=
  (ts[0]?).bind fun t0 => (ti P t0).bind fun i => match i.desc with
    | .slice e => (rowTy P e).bind fun (τ, j) => match j.zero.all cellish && Nat.beq j.zero.length j.size, capC τ (j.zero.map ofValT) with
      | true, some (z, []) => match x with
        | .nil => K (.raw (.tuple #[])) blk
        | .sl r sz off n => match blk r with
          | some (.arr τ' rows) => match Nat.beq sz τ.sz with
            | true => (Ty.cast (.sl τ') (.sl τ) rows).bind fun (rows : List τ.el) => guardT (off + n ≤ rows.length) (K (.raw (.tuple #[])) (upd blk r (some (.arr τ (rows.take off ++ List.replicate n z ++ rows.drop (off + n))))))
            | false => none
          | _ => none
        | .slw r sz n => match blk r with
          | some (.arr τ' rows) => match Nat.beq sz τ.sz with
            | true => (Ty.cast (.sl τ') (.sl τ) rows).bind fun (_ : List τ.el) => K (.raw (.tuple #[])) (upd blk r (some (.arr τ (List.replicate n z))))
            | false => none
          | _ => none
        | _ => none
      | _, _ => none
    | _ => none
theorem clearT_ok {P : Program} {blk : TBlk} {ts : List TypeId} {s : TV} {K : TV → TBlk → Option R} {x : R} (h : clearT P blk ts s K = some x) (hs : okV (lenOk blk) s)
    (hb : ∀ r cs, blk r = some (.vars cs) → okVs (lenOk blk) cs) : WVR blk (clearA P (denB blk) ts s.den) K x := by
  replace h := bindT_some h
  obtain ⟨t0, ht0, h⟩ := h
  replace h := bindT_some h
  obtain ⟨i, hi, h⟩ := h
  simp only [clearA, ht0, hi, Option.bind_some]
  split at h
  case h_2 => cases h
  rename_i e hd
  replace h := bindT_some h
  obtain ⟨⟨τ, j⟩, hj, h⟩ := h
  obtain ⟨hj, hsz⟩ := rowTy_some hj
  simp only at h
  split at h
  case h_2 => cases h
  rename_i z hz1 hz2
  simp only [Bool.and_eq_true] at hz1
  have hzr := zeroRow_enc hz2
  have hzl := Nat.eq_of_beq_eq_true hz1.2
  rw [hd]
  simp only [hj, Option.bind_some]
  split at h
  · exact ⟨_, _, rfl, by simp only [okV], fun _ _ k => k, hb, h⟩
  · rename_i r sz off n
    split at h
    · rename_i τ' rows hr
      split at h
      · rename_i hbeq
        have hbeq := Nat.eq_of_beq_eq_true hbeq
        replace h := bindT_some h
        obtain ⟨rows2, hc, h⟩ := h
        replace h := guardT_some h
        obtain ⟨hg, h⟩ := h
        obtain ⟨c1, c2, c3⟩ := castSl hc
        subst c3
        have hL : ∀ q n', lenOk blk q n' → lenOk (upd blk r (some (TB.arr τ' (rows2.take off ++ List.replicate n z ++ rows2.drop (off + n))))) q n' := by
          refine TBlk.okL fun τ2 rows3 e m hm => ?_
          rcases e with e | e <;> cases e
          rw [hm.2 τ' rows (.inl hr), ← c2]
          simp only [List.length_append, List.length_take, List.length_drop, List.length_replicate]; omega
        refine ⟨_, _, ?_, by simp only [okV], hL, TBlk.okB hb hL (fun cs e => by cases e), h⟩
        have hblk : denB blk r = some (.arr τ'.sz (rows.map (encC τ'))) := by simp only [denB, hr, Option.map_some, TB.den]
        simp only [TV.den, hblk, List.length_map]
        rw [if_pos ⟨hsz, hbeq, by omega, hzl, hz1.1⟩]
        simp only [denB_upd, TB.den, List.map_append, List.map_take, List.map_drop, List.map_replicate, hzr, c1]
      · cases h
    · cases h
  · rename_i r sz n
    split at h
    · rename_i τ' rows hr
      split at h
      · rename_i hbeq
        have hbeq := Nat.eq_of_beq_eq_true hbeq
        replace h := bindT_some h
        obtain ⟨rows2, hc, h⟩ := h
        obtain ⟨c1, c2, c3⟩ := castSl hc
        subst c3
        simp only [okV] at hs
        have hn := hs.2 _ _ (.inl hr)
        have hL : ∀ q n', lenOk blk q n' → lenOk (upd blk r (some (TB.arr τ' (List.replicate n z)))) q n' := by
          refine TBlk.okL fun τ2 rows3 e m hm => ?_
          rcases e with e | e <;> cases e
          rw [hm.2 τ' rows (.inl hr), List.length_replicate, hn]
        refine ⟨_, _, ?_, by simp only [okV], hL, TBlk.okB hb hL (fun cs e => by cases e), h⟩
        have hblk : denB blk r = some (.arr τ'.sz (rows.map (encC τ'))) := by simp only [denB, hr, Option.map_some, TB.den]
        simp only [TV.den, hblk, List.length_map]
        rw [if_pos ⟨hsz, hbeq, by omega, hzl, hz1.1⟩]
        simp only [denB_upd, TB.den, List.map_replicate, hzr]
        rw [List.drop_of_length_le (by simp; omega)]
        simp
      · cases h
    · cases h
  · cases h

def copyT (P : Program) (blk : TBlk) (ts : List TypeId) (dst src : TV) (K : TV → TBlk → Option R) : Option R :=
  (ts[0]?).bind fun t0 => (ti P t0).bind fun i => match i.desc with
    | .slice e => (rowTy P e).bind fun (τ, _) => srcT blk τ src fun new => match dst with
      | .nil => K (.dat (.int .i64) 0) blk
      | .sl r sz off n => match blk r with
        | some (.arr τ' rows) => match Nat.beq sz τ.sz with
          | true => (Ty.cast (.sl τ') (.sl τ) rows).bind fun (rows : List τ.el) => guardT (off + n ≤ rows.length)
            (K (.dat (.int .i64) ((min new.length n : Nat) : Int)) (upd blk r (some (.arr τ (rows.take off ++ new.take (min new.length n) ++ rows.drop (off + min new.length n))))))
          | false => none
        | _ => none
      | .slw r sz n => match blk r with
        | some (.arr τ' rows) => match Nat.beq sz τ.sz with
          | true => (Ty.cast (.sl τ') (.sl τ) rows).bind fun (rows : List τ.el) =>
            K (.dat (.int .i64) ((min new.length n : Nat) : Int)) (upd blk r (some (.arr τ (new.take (min new.length n) ++ rows.drop (min new.length n)))))
          | false => none
        | _ => none
      | _ => none
    | _ => none
theorem copyT_ok {P : Program} {blk : TBlk} {ts : List TypeId} {s a : TV} {K : TV → TBlk → Option R} {x : R} (h : copyT P blk ts s a K = some x) (hs : okV (lenOk blk) s) (ha : okV (lenOk blk) a)
    (hb : ∀ r cs, blk r = some (.vars cs) → okVs (lenOk blk) cs) : WVR blk (copyA P (denB blk) ts s.den a.den) K x := by
  replace h := bindT_some h
  obtain ⟨t0, ht0, h⟩ := h
  replace h := bindT_some h
  obtain ⟨i, hi, h⟩ := h
  simp only [copyA, ht0, hi, Option.bind_some]
  split at h
  case h_2 => cases h
  rename_i e hd
  replace h := bindT_some h
  obtain ⟨⟨τ, j⟩, hj, h⟩ := h
  obtain ⟨hj, hsz⟩ := rowTy_some hj
  simp only at h
  replace h := srcT_ok h ha
  obtain ⟨new, hnew, h⟩ := h
  rw [hd]
  simp only [hj, Option.bind_some, hnew]
  rw [if_pos (by simp [encC_length, hsz])]
  cases s
  case nil => exact ⟨_, _, rfl, by simp only [okV], fun _ _ k => k, hb, h⟩
  case sl r sz off n =>
    simp only at h
    split at h
    · rename_i τ' rows hr
      split at h
      · rename_i hbeq
        have hbeq := Nat.eq_of_beq_eq_true hbeq
        replace h := bindT_some h
        obtain ⟨rows2, hc, h⟩ := h
        replace h := guardT_some h
        obtain ⟨hg, h⟩ := h
        obtain ⟨c1, c2, c3⟩ := castSl hc
        subst c3
        have hL : ∀ q n', lenOk blk q n' → lenOk (upd blk r (some (TB.arr τ' (rows2.take off ++ new.take (min new.length n) ++ rows2.drop (off + min new.length n))))) q n' := by
          refine TBlk.okL fun τ2 rows3 e m hm => ?_
          rcases e with e | e <;> cases e
          rw [hm.2 τ' rows (.inl hr), ← c2]
          simp only [List.length_append, List.length_take, List.length_drop]; omega
        refine ⟨_, _, ?_, by simp only [okV], hL, TBlk.okB hb hL (fun cs e => by cases e), h⟩
        have hblk : denB blk r = some (.arr τ'.sz (rows.map (encC τ'))) := by simp only [denB, hr, Option.map_some, TB.den]
        simp only [TV.den, hblk, List.length_map, ← c1]
        rw [if_pos ⟨hsz, hbeq, by omega⟩]
        simp only [denB_upd, TB.den, List.map_append, List.map_take, List.map_drop, c1, encL]
      · cases h
    · cases h
  case slw r sz n =>
    simp only at h
    split at h
    · rename_i τ' rows hr
      split at h
      · rename_i hbeq
        have hbeq := Nat.eq_of_beq_eq_true hbeq
        replace h := bindT_some h
        obtain ⟨rows2, hc, h⟩ := h
        obtain ⟨c1, c2, c3⟩ := castSl hc
        subst c3
        simp only [okV] at hs
        have hn := hs.2 _ _ (.inl hr)
        have hL : ∀ q n', lenOk blk q n' → lenOk (upd blk r (some (TB.arr τ' (new.take (min new.length n) ++ rows2.drop (min new.length n))))) q n' := by
          refine TBlk.okL fun τ2 rows3 e m hm => ?_
          rcases e with e | e <;> cases e
          rw [hm.2 τ' rows (.inl hr)]
          simp only [List.length_append, List.length_take, List.length_drop]; omega
        refine ⟨_, _, ?_, by simp only [okV], hL, TBlk.okB hb hL (fun cs e => by cases e), h⟩
        have hblk : denB blk r = some (.arr τ'.sz (rows.map (encC τ'))) := by simp only [denB, hr, Option.map_some, TB.den]
        simp only [TV.den, hblk, List.length_map, ← c1]
        rw [if_pos ⟨hsz, hbeq, by omega⟩]
        simp only [denB_upd, TB.den, List.map_append, List.map_take, List.map_drop, c1, encL, List.take_zero, List.nil_append, Nat.zero_add]
      · cases h
    · cases h
  all_goals cases h

end
end Go.Abs

/- What functions of data do, by the kinds of their arguments. -/
namespace Go.Abs
open Go.RowKit

/-! ### Lists of data -/
abbrev els : List Ty → Type
  | [] => Unit
  | [a] => a.el
  | a :: b :: l => a.el × els (b :: l)

def pack : (ts : List Ty) → List Dyn → Option (els ts)
  | [], [] => some ()
  | [a], [⟨τ, x⟩] => Ty.cast τ a x
  | a :: b :: l, ⟨τ, x⟩ :: ds => match Ty.cast τ a x with
    | some x => match pack (b :: l) ds with
      | some xs => some (x, xs)
      | none => none
    | none => none
  | _, _ => none

def unpack : (ts : List Ty) → els ts → List Dyn
  | [], _ => []
  | [a], x => [⟨a, x⟩]
  | a :: b :: l, x => ⟨a, x.1⟩ :: unpack (b :: l) x.2

theorem cast_dyn {τ a : Ty} {x : τ.el} {y : a.el} (h : Ty.cast τ a x = some y) : (⟨τ, x⟩ : Dyn) = ⟨a, y⟩ := by
  obtain ⟨e, h⟩ := Ty.cast_some h
  subst e; subst h; rfl

theorem unpack_pack : ∀ (ts : List Ty) (ds : List Dyn) (x : els ts), pack ts ds = some x → unpack ts x = ds
  | [], ds, x, h => by cases ds <;> simp [pack] at h; rfl
  | [a], ds, x, h => by
    match ds, h with
    | [⟨τ, y⟩], h => simp only [pack] at h; simp only [unpack]; rw [cast_dyn h]
  | a :: b :: l, ds, x, h => by
    match ds, h with
    | ⟨τ, y⟩ :: ds, h =>
      simp only [pack] at h
      split at h
      · rename_i y2 hy
        split at h
        · rename_i xs hx
          cases h
          simp only [unpack]
          rw [unpack_pack (b :: l) ds xs hx, cast_dyn hy]
        · cases h
      · cases h
/-! ### Arguments -/
inductive SK where
  | leaf (τ : Ty) | st (τ : Ty) | ptr (τ : Ty)
inductive SA where
  | s (k : SK)
  | clo (fn : FuncId) (first captured : List SK)

def SK.ty : SK → Ty
  | .leaf τ | .st τ | .ptr τ => τ
def SK.dec : (k : SK) → PD → Option k.ty.el
  | .leaf τ => fun d => allOf (decC τ [d])
  | .st τ => fun d => match d with
    | .agg cs => allOf (decC τ cs)
    | _ => none
  | .ptr τ => fun d => match d with
    | .ptr cs 0 => allOf (decC τ cs)
    | _ => none

def decKs : List SK → List PD → Option (List Dyn)
  | [], [] => some []
  | k :: ks, d :: ds => match k.dec d, decKs ks ds with
    | some x, some xs => some (⟨k.ty, x⟩ :: xs)
    | _, _ => none
  | _, _ => none

def SA.dec : SA → PD → Option (List Dyn)
  | .s k, d => match k.dec d with
    | some x => some [⟨k.ty, x⟩]
    | none => none
  | .clo fn a b, .clo (.func f) as bs => match Nat.beq fn f, decKs a as, decKs b bs with
    | true, some xs, some ys => some (xs ++ ys)
    | _, _, _ => none
  | _, _ => none

def decArgs : List SA → List PD → Option (List Dyn)
  | [], [] => some []
  | a :: as, d :: ds => match a.dec d, decArgs as ds with
    | some xs, some ys => some (xs ++ ys)
    | _, _ => none
  | _, _ => none

/-! ### Results -/
def tagged : List Bool → List Dyn → List (Bool × Dyn)
  | b :: bs, d :: ds => (b, d) :: tagged bs ds
  | _, _ => []
def outPD : List (Bool × Dyn) → PD
  | [d] => resPD d
  | ds => .tup (ds.map resPD)
def outTV : List (Bool × Dyn) → TV
  | [(true, ⟨τ, x⟩)] => .sdat τ x
  | [(false, ⟨τ, x⟩)] => .dat τ x
  | ds => .tupd ds
theorem outTV_den : ∀ (ds : List (Bool × Dyn)), (outTV ds).den = .pd (outPD ds)
  | [] => rfl
  | [(true, ⟨_, _⟩)] => rfl
  | [(false, ⟨_, _⟩)] => rfl
  | (b, ⟨_, _⟩) :: _ :: _ => by cases b <;> rfl
theorem outTV_ok (L : Ref → Nat → Prop) (ds : List (Bool × Dyn)) : okV L (outTV ds) := by
  unfold outTV; split <;> simp only [okV]

/-- What a function does with arguments of such kinds. -/
structure PSpec where
  key : List FuncId
  args : List SA
  ts : List Ty
  bs : List Bool
  rs : List Ty
  F : els ts → Option (els rs)

def PSpec.lift (s : PSpec) (ds : List PD) : Option PD := match decArgs s.args ds with
  | some xs => match pack s.ts xs with
    | some x => match s.F x with
      | some y => some (outPD (tagged s.bs (unpack s.rs y)))
      | none => none
    | none => none
  | none => none

def hkPD : PD → List FuncId
  | .clo (.func f) _ _ => [f]
  | _ => []
def hkTV : TV → List FuncId
  | .clo (.func f) _ _ => [f]
  | _ => []
def keyPD : List PD → List FuncId
  | [] => []
  | d :: l => hkPD d ++ keyPD l
def keyTV : List TV → List FuncId
  | [] => []
  | v :: l => hkTV v ++ keyTV l

def sameKey : List FuncId → List FuncId → Bool
  | [], [] => true
  | a :: l, b :: m => Nat.beq a b && sameKey l m
  | _, _ => false

def findP : List PSpec → List FuncId → Option PSpec
  | [], _ => none
  | s :: l, k => match sameKey s.key k with
    | true => some s
    | false => findP l k

def liftPs (l : List PSpec) (ds : List PD) : Option PD := match findP l (keyPD ds) with
  | some s => s.lift ds
  | none => none

/-! ### Arguments, out of the run -/
mutual
def needsLive (blk : TBlk) : TV → Bool
  | .ptr _ _ => true
  | .eptr r _ _ | .slw r _ _ | .sl r _ _ _ => match blk r with
    | some (.arr _ _) => true
    | _ => false
  | .clo _ a b => needsLive.anyLive blk a || needsLive.anyLive blk b
  | .agg cs => needsLive.anyLive blk cs
  | _ => false
def needsLive.anyLive (blk : TBlk) : List TV → Bool
  | [] => false
  | v :: vs => needsLive blk v || needsLive.anyLive blk vs
end

theorem anyLive_eq (blk : TBlk) : ∀ vs : List TV, needsLive.anyLive blk vs = vs.any (needsLive blk)
  | [] => by simp [needsLive.anyLive]
  | v :: vs => by simp [needsLive.anyLive, anyLive_eq blk vs]

mutual
theorem needsLive_none (blk : TBlk) : ∀ (n : Nat) (v : TV), needsLive blk v = true → view false (denB blk) n v.den = none
  | 0, _, _ => rfl
  | n + 1, .ptr r o, _ => by simp only [TV.den, view]
  | n + 1, .eptr r i o, h => by
    simp only [needsLive] at h
    split at h
    · rename_i τ rows hr
      have : denB blk r = some (.arr τ.sz (rows.map (encC τ))) := by simp only [denB, hr, Option.map_some, TB.den]
      simp only [TV.den, view, this]
    · cases h
  | n + 1, .slw r sz m, h => by
    simp only [needsLive] at h
    split at h
    · rename_i τ rows hr
      have : denB blk r = some (.arr τ.sz (rows.map (encC τ))) := by simp only [denB, hr, Option.map_some, TB.den]
      simp only [TV.den, view, this]
    · cases h
  | n + 1, .sl r sz o m, h => by
    simp only [needsLive] at h
    split at h
    · rename_i τ rows hr
      have : denB blk r = some (.arr τ.sz (rows.map (encC τ))) := by simp only [denB, hr, Option.map_some, TB.den]
      simp only [TV.den, view, this]
    · cases h
  | n + 1, .clo f a b, h => by
    simp only [needsLive, Bool.or_eq_true] at h
    simp only [TV.den, view, TV.dens_eq]
    rcases h with h | h
    · rw [anyLives_none blk n a h]; rfl
    · rw [anyLives_none blk n b h]; cases List.mapM (view false (denB blk) n) (List.map TV.den a) <;> rfl
  | n + 1, .agg cs, h => by
    simp only [needsLive] at h
    simp only [TV.den, view, TV.dens_eq]
    rw [anyLives_none blk n cs h]; rfl
  | n + 1, .und, h => by simp [needsLive] at h
  | n + 1, .raw _, h => by simp [needsLive] at h
  | n + 1, .nil, h => by simp [needsLive] at h
  | n + 1, .dat _ _, h => by simp [needsLive] at h
  | n + 1, .sdat _ _, h => by simp [needsLive] at h
  | n + 1, .tupd _, h => by simp [needsLive] at h
  | n + 1, .tup _, h => by simp [needsLive] at h
  | n + 1, .epd _ _ _, h => by simp [needsLive] at h
  | n + 1, .iface _ _, h => by simp [needsLive] at h
theorem anyLives_none (blk : TBlk) : ∀ (n : Nat) (vs : List TV), needsLive.anyLive blk vs = true → (vs.map TV.den).mapM (view false (denB blk) n) = none
  | n, [], h => by simp [needsLive.anyLive] at h
  | n, v :: vs, h => by
    simp only [needsLive.anyLive, Bool.or_eq_true] at h
    rw [List.map_cons, List.mapM_cons]
    rcases h with h | h
    · rw [needsLive_none blk n v h]; rfl
    · rw [anyLives_none blk n vs h]; cases view false (denB blk) n v.den <;> rfl
end

/-- A block's rows, as far as they may be read. -/
def liveRows (live : Bool) : Option TB → Option ((τ : Ty) × List τ.el)
  | some (.fro τ rows) => some ⟨τ, rows⟩
  | some (.arr τ rows) => match live with
    | true => some ⟨τ, rows⟩
    | false => none
  | _ => none

/-- A cell that holds an own slice, as data. -/
def settle1 (live : Bool) (blk : TBlk) : TV → TV
  | .slw r sz n => match liveRows live (blk r) with
    | some ⟨τ, rows⟩ => .dat (.sl τ) rows
    | none => .slw r sz n
  | v => v
def settle (live : Bool) (blk : TBlk) : List TV → List TV
  | [] => []
  | v :: vs => settle1 live blk v :: settle live blk vs
def SK.cap (live : Bool) (blk : TBlk) : (k : SK) → TV → Option k.ty.el
  | .leaf τ => fun v => match v with
    | .slw r _ _ => match liveRows live (blk r) with
      | some ⟨τ', rows⟩ => Ty.cast (.sl τ') τ rows
      | none => none
    | .sl r _ off n => match liveRows live (blk r) with
      | some ⟨τ', rows⟩ => (window rows off n).bind fun rows => Ty.cast (.sl τ') τ rows
      | none => none
    | .dat τ' x => Ty.cast τ' τ x
    | .nil => match τ with
      | .sl _ => some []
      | _ => none
    | _ => none
  | .st τ => fun v => (avCellsT v).bind fun cs => match v with
    | .agg _ | .sdat _ _ => match capC τ (settle live blk cs) with
      | some (x, []) => some x
      | _ => none
    | _ => none
  | .ptr τ => fun v => match v with
    | .epd τ' x off => match off with
      | 0 => Ty.cast τ' τ x
      | _ + 1 => none
    | .ptr r off => match off with
      | 0 => match live with
        | true => match blk r with
          | some (.vars cs) => match capC τ cs with
            | some (x, []) => some x
            | _ => none
          | _ => none
        | false => none
      | _ + 1 => none
    | .eptr r row off => match off with
      | 0 => match liveRows live (blk r) with
        | some ⟨τ', rows⟩ => (rows[row]?).bind fun y => Ty.cast τ' τ y
        | none => none
      | _ + 1 => none
    | _ => none

def SK.good : SK → Bool
  | .leaf τ => τ.isLeaf && τ.ok
  | .st τ | .ptr τ => τ.ok

def capKs (live : Bool) (blk : TBlk) : List SK → List TV → Option (List Dyn)
  | [], [] => some []
  | k :: ks, v :: vs => match k.good with
    | true => (k.cap live blk v).bind fun x => (capKs live blk ks vs).bind fun xs => some (⟨k.ty, x⟩ :: xs)
    | false => none
  | _, _ => none

def SA.cap (live : Bool) (blk : TBlk) : SA → TV → Option (List Dyn)
  | .s k, v => match k.good with
    | true => (k.cap live blk v).bind fun x => some [⟨k.ty, x⟩]
    | false => none
  | .clo fn a b, .clo (.func f) as bs => match Nat.beq fn f with
    | true => (capKs live blk a as).bind fun xs => (capKs live blk b bs).bind fun ys => some (xs ++ ys)
    | false => none
  | _, _ => none

def capArgs (live : Bool) (blk : TBlk) : List SA → List TV → Option (List Dyn)
  | [], [] => some []
  | a :: as, v :: vs => (a.cap live blk v).bind fun xs => (capArgs live blk as vs).bind fun ys => some (xs ++ ys)
  | _, _ => none

theorem liveRows_view {live : Bool} {blk : TBlk} {r : Ref} {τ : Ty} {rows : List τ.el} (h : liveRows live (blk r) = some ⟨τ, rows⟩) :
    (∀ n sz off len, view live (denB blk) (n + 1) (.sl r sz off len) = (window (rows.map (encC τ)) off len).map .sl) ∧
    (∀ n row off, view live (denB blk) (n + 1) (.eptr r row off) = ((rows.map (encC τ))[row]?).map (.ptr · off)) ∧ (blk r = some (.arr τ rows) ∨ blk r = some (.fro τ rows)) := by
  unfold liveRows at h
  split at h
  · rename_i hr
    cases h
    have : denB blk r = some (.fro τ.sz (rows.map (encC τ))) := by simp only [denB, hr, Option.map_some, TB.den]
    exact ⟨fun n sz off len => by simp only [view, this], fun n row off => by simp only [view, this], .inr hr⟩
  · rename_i hr
    split at h
    · cases h
      have : denB blk r = some (.arr τ.sz (rows.map (encC τ))) := by simp only [denB, hr, Option.map_some, TB.den]
      exact ⟨fun n sz off len => by simp only [view, this], fun n row off => by simp only [view, this], .inl hr⟩
    · cases h
  · cases h

theorem decL {τ : Ty} (hl : τ.isLeaf = true) (ho : τ.ok = true) (x : τ.el) : allOf (decC τ [encL τ x]) = some x := by
  have := decC_enc τ ho x []
  rw [encC_leaf hl] at this
  simp only [List.append_nil] at this
  rw [this]; rfl
theorem decAll {τ : Ty} (ho : τ.ok = true) (x : τ.el) : allOf (decC τ (encC τ x)) = some x := by
  have := decC_enc τ ho x []
  rw [List.append_nil] at this
  rw [this]; rfl

theorem capAll {live : Bool} {blk : Blk} {n : Nat} {τ : Ty} {cs : List TV} {x : τ.el} (h : capC τ cs = some (x, [])) : (cs.map TV.den).mapM (view live blk (n + 1)) = some (encC τ x) := by
  obtain ⟨pre, e, k⟩ := capC_view _ _ _ _ h
  rw [List.append_nil] at e; subst e
  exact k live blk n

theorem view_agg (live : Bool) (blk : Blk) (n : Nat) (cs : List AV) : view live blk (n + 1) (.agg cs) = (cs.mapM (view live blk n)).map .agg := rfl
theorem view_ptr {blk : Blk} {r : Ref} {cs : List AV} (h : blk r = some (.vars cs)) (n off : Nat) : view true blk (n + 1) (.ptr r off) = (cs.mapM (view true blk n)).map (.ptr · off) := by
  show (match true, blk r with
    | true, some (.vars cs) => (cs.mapM (view true blk n)).map (PD.ptr · off)
    | _, _ => none) = _
  rw [h]

/-- The datum itself. -/
def SK.enc : (k : SK) → k.ty.el → PD
  | .leaf τ, x => encL τ x
  | .st τ, x => .agg (encC τ x)
  | .ptr τ, x => .ptr (encC τ x) 0

theorem view_clo (live : Bool) (blk : Blk) (n : Nat) (f : Fn) (a b : List AV) : view live blk (n + 1) (.clo f a b) = (a.mapM (view live blk n)).bind fun x => (b.mapM (view live blk n)).map (.clo f x ·) := rfl

theorem settle1_view {live : Bool} {blk : TBlk} {L : Ref → Nat → Prop} (hL : ∀ r n, L r n → ∀ τ rows, blk r = some (.arr τ rows) ∨ blk r = some (.fro τ rows) → n = rows.length) {v : TV} (hv : okV L v) (n : Nat) :
    view live (denB blk) (n + 1) (settle1 live blk v).den = view live (denB blk) (n + 1) v.den := by
  cases v <;> try rfl
  rename_i r sz m
  simp only [settle1]
  split
  · rename_i τ rows hr
    obtain ⟨h1, _, h3⟩ := liveRows_view hr
    simp only [okV] at hv
    have hm := hL _ _ hv _ _ h3
    simp only [TV.den, h1]
    unfold window
    rw [if_pos (by simp [hm])]
    simp only [hm, List.drop_zero, Option.map_some]
    rw [List.take_of_length_le (by simp)]
    rfl
  · rfl
theorem settle_view {live : Bool} {blk : TBlk} {L : Ref → Nat → Prop} (hL : ∀ r n, L r n → ∀ τ rows, blk r = some (.arr τ rows) ∨ blk r = some (.fro τ rows) → n = rows.length) (n : Nat) : ∀ {cs : List TV}, (∀ c ∈ cs, okV L c) →
    ((settle live blk cs).map TV.den).mapM (view live (denB blk) (n + 1)) = (cs.map TV.den).mapM (view live (denB blk) (n + 1))
  | [], _ => rfl
  | c :: cs, h => by
    simp only [settle, List.map_cons, List.mapM_cons]
    rw [settle1_view hL (h c (by simp)) n, settle_view hL n fun c hc => h c (by simp [hc])]

theorem SK.cap_ok {live : Bool} {blk : TBlk} {k : SK} {v : TV} {x : k.ty.el} (hg : k.good = true) (h : k.cap live blk v = some x) {L : Ref → Nat → Prop} (hL : ∀ r n, L r n → ∀ τ rows, blk r = some (.arr τ rows) ∨ blk r = some (.fro τ rows) → n = rows.length) (hv : okV L v) (n : Nat) :
    view live (denB blk) (n + 2) v.den = some (k.enc x) := by
  cases k with
  | leaf τ =>
    simp only [SK.good, Bool.and_eq_true] at hg
    cases v
    case slw r sz m =>
      simp only [SK.cap] at h
      split at h
      · rename_i τ' rows hr
        obtain ⟨h1, _, h3⟩ := liveRows_view hr
        obtain ⟨e, h⟩ := Ty.cast_some h
        subst e; subst h
        simp only [okV] at hv
        have hm := hL _ _ hv _ _ h3
        show view live (denB blk) (n + 2) _ = some (.sl (rows.map (encC τ')))
        simp only [TV.den, h1]
        unfold window
        rw [if_pos (by simp [hm])]
        simp [hm, List.take_of_length_le]
      · cases h
    case sl r sz off m =>
      simp only [SK.cap] at h
      split at h
      · rename_i τ' rows hr
        obtain ⟨h1, _, h3⟩ := liveRows_view hr
        replace h := bindT_some h
        obtain ⟨ws, hw, h⟩ := h
        obtain ⟨e, h⟩ := Ty.cast_some h
        subst e; subst h
        show view live (denB blk) (n + 2) _ = some (.sl (ws.map (encC τ')))
        simp only [TV.den, h1, window_map, hw, Option.map_some]
      · cases h
    case dat τ' y =>
      simp only [SK.cap] at h
      obtain ⟨e, h⟩ := Ty.cast_some h
      subst e; subst h
      rfl
    case nil =>
      cases τ <;> simp only [SK.cap, reduceCtorEq] at h
      cases h
      rfl
    all_goals (simp only [SK.cap, reduceCtorEq] at h)
  | st τ =>
    simp only [SK.good] at hg
    cases v <;> simp only [SK.cap, avCellsT, Option.bind_none, Option.bind_some, reduceCtorEq] at h
    case agg cs =>
      split at h
      · rename_i z hz
        cases h
        simp only [okV] at hv
        have hz2 := capAll (live := live) (blk := denB blk) (n := n) hz
        rw [settle_view hL n (okVs_iff.1 hv)] at hz2
        simp only [TV.den, view_agg, TV.dens_eq, hz2, Option.map_some]; rfl
      · cases h
    case sdat τ' y =>
      split at h
      · rename_i z hz
        cases h
        have h2 := explode_view live (denB blk) 0 τ' y
        have hz2 := capAll (live := live) (blk := denB blk) (n := 0) hz
        rw [settle_view (L := fun _ _ => False) (fun _ _ h => h.elim) 0 (explode_ok _ τ' y)] at hz2
        rw [hz2] at h2
        show some (PD.agg (encC τ' y)) = some (PD.agg (encC τ x))
        rw [← Option.some.inj h2]
      · cases h
    case raw u => split at h <;> simp at h
  | ptr τ =>
    simp only [SK.good] at hg
    cases v <;> simp only [SK.cap, reduceCtorEq] at h
    case epd τ' y off =>
      cases off <;> simp only [reduceCtorEq] at h
      obtain ⟨e, h⟩ := Ty.cast_some h
      subst e; subst h
      rfl
    case ptr r off =>
      cases off <;> simp only [reduceCtorEq] at h
      split at h
      · split at h
        · rename_i cs hr
          split at h
          · rename_i z hz
            cases h
            have : denB blk r = some (.vars (cs.map TV.den)) := by simp only [denB, hr, Option.map_some, TB.den, TV.dens_eq]
            simp only [TV.den, view_ptr this, capAll hz, Option.map_some]; rfl
          · cases h
        · cases h
      · cases h
    case eptr r row off =>
      cases off <;> simp only [reduceCtorEq] at h
      split at h
      · rename_i τ' rows hr
        obtain ⟨_, h2, _⟩ := liveRows_view hr
        replace h := bindT_some h
        obtain ⟨y, hy, h⟩ := h
        obtain ⟨e, h⟩ := Ty.cast_some h
        subst e; subst h
        simp only [TV.den, h2, List.getElem?_map, hy, Option.map_some]; rfl
      · cases h

theorem SK.dec_enc {k : SK} (hg : k.good = true) (x : k.ty.el) : k.dec (k.enc x) = some x := by
  cases k with
  | leaf τ => simp only [SK.good, Bool.and_eq_true] at hg; exact decL hg.1 hg.2 x
  | st τ => exact decAll hg x
  | ptr τ => exact decAll hg x

theorem capKs_ok {live : Bool} {blk : TBlk} (n : Nat) : ∀ {ks : List SK} {vs : List TV} {xs : List Dyn}, capKs live blk ks vs = some xs → (∀ v ∈ vs, okV (lenOk blk) v) →
    ∃ ds, (vs.map TV.den).mapM (view live (denB blk) (n + 2)) = some ds ∧ decKs ks ds = some xs
  | [], [], xs, h, _ => by cases h; exact ⟨[], rfl, rfl⟩
  | [], _ :: _, _, h, _ => by cases h
  | _ :: _, [], _, h, _ => by cases h
  | k :: ks, v :: vs, xs, h, hv => by
    simp only [capKs] at h
    split at h
    · rename_i hg
      replace h := bindT_some h
      obtain ⟨x, hx, h⟩ := h
      replace h := bindT_some h
      obtain ⟨ys, hys, h⟩ := h
      cases h
      have hd1 := SK.cap_ok hg hx (fun _ _ h => h.2) (hv v (by simp)) n
      have hd2 := SK.dec_enc hg x
      obtain ⟨ds, hs1, hs2⟩ := capKs_ok n hys (fun u hu => hv u (by simp [hu]))
      refine ⟨k.enc x :: ds, ?_, ?_⟩
      · rw [List.map_cons, List.mapM_cons, hd1, hs1]; rfl
      · simp only [decKs, hd2, hs2]
    · cases h

theorem SA.cap_ok {live : Bool} {blk : TBlk} {a : SA} {v : TV} {xs : List Dyn} (h : a.cap live blk v = some xs) (hv : okV (lenOk blk) v) (n : Nat) :
    ∃ d, view live (denB blk) (n + 3) v.den = some d ∧ a.dec d = some xs := by
  cases a with
  | s k =>
    simp only [SA.cap] at h
    split at h
    · rename_i hg
      replace h := bindT_some h
      obtain ⟨x, hx, h⟩ := h
      cases h
      exact ⟨k.enc x, SK.cap_ok hg hx (fun _ _ h => h.2) hv (n + 1), by simp only [SA.dec, SK.dec_enc hg x]⟩
    · cases h
  | clo fn as bs =>
    cases v <;> try cases h
    rename_i f vs us
    cases f <;> try cases h
    rename_i f
    simp only [SA.cap] at h
    split at h
    · rename_i hb
      replace h := bindT_some h
      obtain ⟨xs1, hx1, h⟩ := h
      replace h := bindT_some h
      obtain ⟨xs2, hx2, h⟩ := h
      cases h
      simp only [okV] at hv
      obtain ⟨ds, k1, k2⟩ := capKs_ok n hx1 (okVs_iff.1 hv.1)
      obtain ⟨es, k3, k4⟩ := capKs_ok n hx2 (okVs_iff.1 hv.2)
      refine ⟨.clo (.func f) ds es, ?_, ?_⟩
      · simp only [TV.den, view_clo, TV.dens_eq, k1, k3, Option.bind_some, Option.map_some]
      · simp only [SA.dec, hb, k2, k4]
    · cases h

theorem capArgs_ok {live : Bool} {blk : TBlk} : ∀ {as : List SA} {vs : List TV} {xs : List Dyn}, capArgs live blk as vs = some xs → (∀ v ∈ vs, okV (lenOk blk) v) →
    ∃ ds, (vs.map TV.den).mapM (view live (denB blk) 8) = some ds ∧ decArgs as ds = some xs
  | [], [], xs, h, _ => by cases h; exact ⟨[], rfl, rfl⟩
  | [], _ :: _, _, h, _ => by cases h
  | _ :: _, [], _, h, _ => by cases h
  | a :: as, v :: vs, xs, h, hv => by
    simp only [capArgs] at h
    replace h := bindT_some h
    obtain ⟨x, hx, h⟩ := h
    replace h := bindT_some h
    obtain ⟨ys, hys, h⟩ := h
    cases h
    obtain ⟨d, hd1, hd2⟩ := SA.cap_ok hx (hv v (by simp)) 5
    obtain ⟨ds, hs1, hs2⟩ := capArgs_ok hys (fun u hu => hv u (by simp [hu]))
    refine ⟨d :: ds, ?_, ?_⟩
    · rw [List.map_cons, List.mapM_cons, hd1, hs1]; rfl
    · simp only [decArgs, hd2, hs2]

theorem encL_hk (τ : Ty) (x : τ.el) : hkPD (encL τ x) = [] := by cases τ <;> rfl
theorem hk_view {live : Bool} {blk : Blk} {n : Nat} {v : TV} {d : PD} (h : view live blk (n + 1) v.den = some d) : hkPD d = hkTV v := by
  cases v with
  | clo f a b =>
    simp only [TV.den, view_clo, Option.bind_eq_some_iff, Option.map_eq_some_iff] at h
    obtain ⟨_, _, _, _, rfl⟩ := h
    cases f <;> rfl
  | dat τ x => simp only [TV.den, view, Option.some.injEq] at h; subst h; exact encL_hk τ x
  | und => cases h
  | raw _ => simp only [TV.den, view, Option.some.injEq] at h; subst h; rfl
  | nil => simp only [TV.den, view, Option.some.injEq] at h; subst h; rfl
  | sdat _ _ => simp only [TV.den, view, Option.some.injEq] at h; subst h; rfl
  | tupd _ => simp only [TV.den, view, Option.some.injEq] at h; subst h; rfl
  | epd _ _ _ => simp only [TV.den, view, Option.some.injEq] at h; subst h; rfl
  | agg _ => simp only [TV.den, view, Option.map_eq_some_iff] at h; obtain ⟨_, _, rfl⟩ := h; rfl
  | tup _ => simp only [TV.den, view, Option.map_eq_some_iff] at h; obtain ⟨_, _, rfl⟩ := h; rfl
  | iface _ _ => simp only [TV.den, view, Option.map_eq_some_iff] at h; obtain ⟨_, _, rfl⟩ := h; rfl
  | ptr _ _ => simp only [TV.den, view] at h; split at h <;> simp at h; obtain ⟨_, _, rfl⟩ := h; rfl
  | eptr _ _ _ => simp only [TV.den, view] at h; split at h <;> simp at h <;> (obtain ⟨_, _, rfl⟩ := h; rfl)
  | slw _ _ _ => simp only [TV.den, view] at h; split at h <;> simp at h <;> (obtain ⟨_, _, rfl⟩ := h; rfl)
  | sl _ _ _ _ => simp only [TV.den, view] at h; split at h <;> simp at h <;> (obtain ⟨_, _, rfl⟩ := h; rfl)
theorem key_view {live : Bool} {blk : Blk} {n : Nat} : ∀ {vs : List TV} {ds : List PD}, (vs.map TV.den).mapM (view live blk (n + 1)) = some ds → keyPD ds = keyTV vs
  | [], ds, h => by simp at h; subst h; rfl
  | v :: vs, ds, h => by
    rw [List.map_cons, List.mapM_cons] at h
    simp only [Option.bind_eq_bind, Option.bind_eq_some_iff] at h
    obtain ⟨d, hd, ds', hds, e⟩ := h
    cases e
    simp only [keyPD, keyTV, hk_view hd, key_view hds]

/-- Kinds of results that reach no memory. -/
def Ty.flatC : Ty → Bool
  | .int _ | .bool | .str => true
  | .unit => true
  | .pair a b => a.flatC && b.flatC
  | _ => false
theorem Ty.flatC_leaf : ∀ {τ : Ty}, τ.flatC = true → ∀ (x : τ.el), ∀ d ∈ encC τ x, d.leaf = true
  | .int _, _, _ => by simp [encC, PD.leaf]
  | .bool, _, _ => by simp [encC, PD.leaf]
  | .str, _, _ => by simp [encC, PD.leaf]
  | .unit, _, _ => by simp [encC]
  | .pair a b, h, x => by
    simp only [Ty.flatC, Bool.and_eq_true] at h
    intro d hd
    simp only [encC, List.mem_append] at hd
    rcases hd with k | k
    · exact flatC_leaf h.1 _ d k
    · exact flatC_leaf h.2 _ d k
  | .nat, h, _ => by simp [Ty.flatC] at h
  | .sl _, h, _ => by simp [Ty.flatC] at h

def flatRs : List Bool → List Ty → Bool
  | _, [] => true
  | true :: bs, τ :: l => τ.flatC && flatRs bs l
  | false :: bs, τ :: l => τ.flatC && flatRs bs l
  | [], _ => true

theorem resPD_flat {b : Bool} {τ : Ty} {x : τ.el} (h : τ.flatC = true) : (resPD (b, ⟨τ, x⟩)).flat = true ∧
    (match resPD (b, ⟨τ, x⟩) with | .val _ => true | .sl [] => true | .agg cs => cs.all PD.leaf | _ => false) = true := by
  cases b with
  | true =>
    have : (encC τ x).all PD.leaf = true := List.all_eq_true.2 (Ty.flatC_leaf h x)
    exact ⟨this, this⟩
  | false => cases τ <;> simp_all [Ty.flatC, resPD, encL, PD.flat]

theorem flatRs_all : ∀ {bs : List Bool} {rs : List Ty} (y : els rs), flatRs bs rs = true → ∀ d ∈ tagged bs (unpack rs y), d.2.1.flatC = true
  | bs, [], y, _ => by cases bs <;> simp [unpack, tagged]
  | [], _ :: _, y, _ => by simp [tagged]
  | b :: bs, [a], y, h => by
    have h3 : a.flatC = true := by cases b <;> simpa [flatRs] using h
    intro d hd
    cases bs <;> simp [unpack, tagged] at hd <;> (subst hd; exact h3)
  | b :: bs, a :: c :: l, y, h => by
    have h : a.flatC = true ∧ flatRs bs (c :: l) = true := by cases b <;> simpa [flatRs] using h
    intro d hd
    simp only [unpack, tagged, List.mem_cons] at hd
    rcases hd with rfl | hd
    · exact h.1
    · exact flatRs_all y.2 h.2 d hd

theorem outPD_flat {bs : List Bool} {rs : List Ty} (y : els rs) (h : flatRs bs rs = true) : (outPD (tagged bs (unpack rs y))).flat = true := by
  have := flatRs_all y h
  generalize tagged bs (unpack rs y) = ds at *
  unfold outPD
  split
  · rename_i d; obtain ⟨b, τ, x⟩ := d; exact (resPD_flat (this (b, ⟨τ, x⟩) (by simp))).1
  · simp only [PD.flat, List.all_map, List.all_eq_true]
    intro d hd
    obtain ⟨b, τ, x⟩ := d
    exact (resPD_flat (this _ hd)).2

/-! ### Calls -/
section
variable {R : Type}
/-! The same with what comes after them. -/
def capKsK (live : Bool) (blk : TBlk) : List SK → List TV → (List Dyn → Option R) → Option R
  | [], [], K => K []
  | k :: ks, v :: vs, K => match k.good with
    | true => (k.cap live blk v).bind fun x => capKsK live blk ks vs fun xs => K (⟨k.ty, x⟩ :: xs)
    | false => none
  | _, _, _ => none
theorem capKsK_some {live : Bool} {blk : TBlk} {x : R} : ∀ {ks : List SK} {vs : List TV} {K : List Dyn → Option R}, capKsK live blk ks vs K = some x → ∃ xs, capKs live blk ks vs = some xs ∧ K xs = some x
  | [], [], K, h => ⟨[], rfl, h⟩
  | [], _ :: _, K, h => by cases h
  | _ :: _, [], K, h => by cases h
  | k :: ks, v :: vs, K, h => by
    simp only [capKsK] at h
    split at h
    · rename_i hg
      replace h := bindT_some h
      obtain ⟨y, hy, h⟩ := h
      obtain ⟨xs, hx, h⟩ := capKsK_some h
      exact ⟨_, by simp only [capKs, hg, hy, hx, Option.bind_some], h⟩
    · cases h
def SA.capK (live : Bool) (blk : TBlk) : SA → TV → (List Dyn → Option R) → Option R
  | .s k, v, K => match k.good with
    | true => (k.cap live blk v).bind fun x => K [⟨k.ty, x⟩]
    | false => none
  | .clo fn a b, .clo (.func f) as bs, K => match Nat.beq fn f with
    | true => capKsK live blk a as fun xs => capKsK live blk b bs fun ys => K (xs ++ ys)
    | false => none
  | _, _, _ => none
theorem SA.capK_some {live : Bool} {blk : TBlk} {x : R} {a : SA} {v : TV} {K : List Dyn → Option R} (h : a.capK live blk v K = some x) : ∃ xs, a.cap live blk v = some xs ∧ K xs = some x := by
  unfold SA.capK at h
  split at h
  · rename_i k v
    split at h
    · rename_i hg
      replace h := bindT_some h
      obtain ⟨y, hy, h⟩ := h
      exact ⟨_, by simp only [SA.cap, hg, hy, Option.bind_some], h⟩
    · cases h
  · split at h
    · rename_i hb
      obtain ⟨xs, hx, h⟩ := capKsK_some h
      obtain ⟨ys, hy, h⟩ := capKsK_some h
      exact ⟨_, by simp only [SA.cap, hb, hx, hy, Option.bind_some], h⟩
    · cases h
  · cases h
def capArgsK (live : Bool) (blk : TBlk) : List SA → List TV → (List Dyn → Option R) → Option R
  | [], [], K => K []
  | a :: as, v :: vs, K => a.capK live blk v fun xs => capArgsK live blk as vs fun ys => K (xs ++ ys)
  | _, _, _ => none
theorem capArgsK_some {live : Bool} {blk : TBlk} {x : R} : ∀ {as : List SA} {vs : List TV} {K : List Dyn → Option R}, capArgsK live blk as vs K = some x → ∃ xs, capArgs live blk as vs = some xs ∧ K xs = some x
  | [], [], K, h => ⟨[], rfl, h⟩
  | [], _ :: _, K, h => by cases h
  | _ :: _, [], K, h => by cases h
  | a :: as, v :: vs, K, h => by
    simp only [capArgsK] at h
    obtain ⟨xs, hx, h⟩ := SA.capK_some h
    obtain ⟨ys, hy, h⟩ := capArgsK_some h
    exact ⟨_, by simp only [capArgs, hx, hy, Option.bind_some], h⟩

def callPT (l : List PSpec) (blk : TBlk) (args : List TV) (K : TV → Option R) : Option R := match findP l (keyTV args) with
  | some s => match args.any (needsLive blk) with
    | false => capArgsK false blk s.args args fun xs => (pack s.ts xs).bind fun x => (s.F x).bind fun y => K (outTV (tagged s.bs (unpack s.rs y)))
    | true => match flatRs s.bs s.rs with
      | true => capArgsK true blk s.args args fun xs => (pack s.ts xs).bind fun x => (s.F x).bind fun y => K (outTV (tagged s.bs (unpack s.rs y)))
      | false => none
  | none => none

theorem callPT_ok {l : List PSpec} {blk : TBlk} {args : List TV} {K : TV → Option R} {x : R} {Γ : Gam} {f : FuncId} (hΓ : Γ f = some (.p (liftPs l))) (h : callPT l blk args K = some x) (ha : ∀ v ∈ args, okV (lenOk blk) v) :
    AvR (callP Γ (denB blk) f (args.map TV.den)) (lenOk blk) K x := by
  unfold callPT at h
  unfold callP
  rw [hΓ]
  simp only
  split at h
  case h_2 => cases h
  rename_i s hs
  split at h
  · obtain ⟨xs, hxs, h⟩ := capArgsK_some h
    replace h := bindT_some h
    obtain ⟨y, hy, h⟩ := h
    replace h := bindT_some h
    obtain ⟨z, hz, h⟩ := h
    obtain ⟨ds, k1, k2⟩ := capArgs_ok hxs ha
    have hk := key_view k1
    have hl : liftPs l ds = some (outPD (tagged s.bs (unpack s.rs z))) := by
      unfold liftPs; rw [hk, hs]; simp only [PSpec.lift, k2, hy, hz]
    rw [k1]
    simp only [hl, Option.map_some]
    exact ⟨_, by rw [outTV_den], outTV_ok _ _, h⟩
  · rename_i hlive
    split at h
    case h_2 => cases h
    rename_i hflat
    obtain ⟨xs, hxs, h⟩ := capArgsK_some h
    replace h := bindT_some h
    obtain ⟨y, hy, h⟩ := h
    replace h := bindT_some h
    obtain ⟨z, hz, h⟩ := h
    obtain ⟨ds, k1, k2⟩ := capArgs_ok hxs ha
    have hk := key_view k1
    have hl : liftPs l ds = some (outPD (tagged s.bs (unpack s.rs z))) := by
      unfold liftPs; rw [hk, hs]; simp only [PSpec.lift, k2, hy, hz]
    have hn : (args.map TV.den).mapM (view false (denB blk) 8) = none := by
      rw [← anyLive_eq] at hlive
      exact anyLives_none blk 8 args hlive
    rw [hn]
    simp only [k1, hl, Option.bind_some, outPD_flat z hflat, if_true]
    exact ⟨_, by rw [outTV_den], outTV_ok _ _, h⟩

end
end Go.Abs

/- One operation, with open data, and what comes after it. -/
namespace Go.Abs
open Go.RowKit

/-- What is known of a function, as it is used in a run. -/
inductive TSpec : Type 1 where
  | p (c : ∀ {R : Type}, TBlk → List TV → (TV → Option R) → Option R)
  | g (c : ∀ {R : Type}, Nat → TBlk → List TV → (TV → TBlk → Option R) → Option R)
abbrev TGam := FuncId → Option TSpec

def freshT (blk : TBlk) (d : Nat) : Bool := match blk (.loc d 0), blk (.loc d 1), blk (.loc d 2), blk (.loc d 3) with
  | none, none, none, none => true
  | _, _, _, _ => false

def blkOk (blk : TBlk) : Prop := ∀ r cs, blk r = some (.vars cs) → okVs (lenOk blk) cs

def TSpec.holds (Γ : Gam) (f : FuncId) : TSpec → Prop
  | .p c => (∃ F, Γ f = some (.p F)) ∧ ∀ (R : Type) (blk : TBlk) (args : List TV) (K : TV → Option R) (x : R), c blk args K = some x → (∀ v ∈ args, okV (lenOk blk) v) → AvR (callP Γ (denB blk) f (args.map TV.den)) (lenOk blk) K x
  | .g c => ∃ G, Γ f = some (.g G) ∧ ∀ (R : Type) (d : Nat) (blk : TBlk) (args : List TV) (K : TV → TBlk → Option R) (x : R), c d blk args K = some x → freshT blk d = true → (∀ v ∈ args, okV (lenOk blk) v) → blkOk blk →
      WVR blk (G d (args.map TV.den) (denB blk)) K x
def GamT (Γ : Gam) (TΓ : TGam) : Prop := ∀ f s, TΓ f = some s → s.holds Γ f

section
variable {R : Type}

def TSt.put (st : TSt) : Option Nat → TV → TSt
  | some d, v => ⟨upd st.env d v, st.blk⟩
  | none, _ => st
theorem TSt.put_den (st : TSt) (d : Option Nat) (v : TV) : (st.put d v).den = st.den.put d v.den := by
  cases d with
  | none => rfl
  | some d => simp only [TSt.put, TSt.den, St.put, denE_upd]
theorem upd_env_ok {L : Ref → Nat → Prop} {env : Nat → TV} {d : Nat} {v : TV} (h : ∀ t, okV L (env t)) (hv : okV L v) : ∀ t, okV L (upd env d v t) := by
  intro t; unfold upd; split
  · exact hv
  · exact h t
theorem TSt.put_ok {st : TSt} {d : Option Nat} {v : TV} (h : st.Ok) (hv : okV (lenOk st.blk) v) : (st.put d v).Ok := by
  cases d with
  | none => exact h
  | some d => exact ⟨upd_env_ok h.env hv, h.blk⟩

theorem freshT_den {blk : TBlk} {d : Nat} (h : freshT blk d = true) : freshFrom (denB blk) d = true := by
  unfold freshT at h
  split at h
  · rename_i h0 h1 h2 h3
    simp [freshFrom, denB, h0, h1, h2, h3]
  · cases h

def asFunT : TV → Option (FuncId × List TV × List TV)
  | .clo (.func f) first captured => some (f, first, captured)
  | _ => none

def bytesT (P : Program) (blk : TBlk) (src dst : TypeId) (v : TV) (K : TV → Option R) : Option R :=
  (ti P src).bind fun i => (ti P dst).bind fun j => match i.desc, j.desc with
    | .slice e, .string => (ti P e).bind fun k => match k.desc with
      | .int .u8 => match v with
        | .raw _ => none
        | .dat (.sl _) _ | .nil | .slw _ _ _ | .sl _ _ _ _ => srcT blk (.int .u8) v fun l => K (.dat .str (l.map fun n => UInt8.ofNat n.toNat))
        | _ => none
      | _ => none
    | _, _ => none
theorem bytes_mapM : ∀ l : List Int, (l.map (encC (.int .u8))).mapM byteOf = some (l.map fun n => UInt8.ofNat n.toNat)
  | [] => rfl
  | n :: l => by rw [List.map_cons, List.mapM_cons, bytes_mapM l]; rfl

def semRT (P : Program) (TΓ : TGam) (ρ : Operand → TV) (blk : TBlk) (op : Op) (K : TV → Option R) : Option R :=
  match op with
  | .load t x => loadT P blk t (ρ x) K
  | .convert src dst x => bytesT P blk src dst (ρ x) K
  | .call { callee := .value f, args, .. } => (asFunT (ρ f)).bind fun (f, first, captured) => match TΓ f with
    | some (.p c) => c blk (first ++ args.toList.map ρ ++ captured) K
    | _ => none
  | _ => none

theorem semRT_ok {P : Program} {Γ : Gam} {TΓ : TGam} (hT : GamT Γ TΓ) {ρ : Operand → TV} {blk : TBlk} {op : Op} {K : TV → Option R} {x : R} (h : semRT P TΓ ρ blk op K = some x) (hρ : ∀ o, okV (lenOk blk) (ρ o)) (hb : blkOk blk) :
    AvR (semR P Γ (fun o => (ρ o).den) (denB blk) op) (lenOk blk) K x := by
  unfold semRT at h
  split at h
  · exact loadT_ok h hb
  · rename_i src dst a
    replace h := bindT_some h
    obtain ⟨i, hi, h⟩ := h
    replace h := bindT_some h
    obtain ⟨j, hj, h⟩ := h
    simp only [semR, hi, hj, Option.bind_some]
    split at h
    case h_2 => cases h
    rename_i e hd1 hd2
    replace h := bindT_some h
    obtain ⟨k, hk, h⟩ := h
    rw [hd1, hd2]
    simp only [hk, Option.bind_some]
    split at h
    case h_2 => cases h
    rename_i hd3
    rw [hd3]
    simp only
    have key : isVal (ρ a).den = false → (srcT blk (.int .u8) (ρ a) fun l => K (.dat .str (l.map fun n => UInt8.ofNat n.toNat))) = some x →
        AvR (if isVal (ρ a).den then none else (srcA (denB blk) (ρ a).den).bind fun rows => (rows.mapM byteOf).map fun bs => AV.pd (.val (.string ⟨bs.toArray⟩))) (lenOk blk) K x := by
      intro hv h
      obtain ⟨l, hl, h⟩ := srcT_ok h (hρ a)
      rw [hv]
      simp only [Bool.false_eq_true, if_false, hl, Option.bind_some]
      exact ⟨_, congrArg (Option.map _) (bytes_mapM l), by simp only [okV], h⟩
    split at h
    · cases h
    · rename_i e; exact key (by rw [e]; rfl) h
    · rename_i e; exact key (by rw [e]; rfl) h
    · rename_i e; exact key (by rw [e]; rfl) h
    · rename_i e; exact key (by rw [e]; rfl) h
    · cases h
  · rename_i f args _
    replace h := bindT_some h
    obtain ⟨⟨f', first, captured⟩, hf, h⟩ := h
    simp only at h
    split at h
    case h_2 => cases h
    rename_i c hc
    have hd : asFun (ρ f).den = some (f', first.map TV.den, captured.map TV.den) ∧ (∀ v ∈ first, okV (lenOk blk) v) ∧ (∀ v ∈ captured, okV (lenOk blk) v) := by
      have ho := hρ f
      unfold asFunT at hf
      split at hf
      · rename_i e
        cases hf
        rw [e] at ho ⊢
        simp only [okV] at ho
        exact ⟨by simp only [TV.den, TV.dens_eq, asFun], okVs_iff.1 ho.1, okVs_iff.1 ho.2⟩
      · cases hf
    have := (hT f' _ hc).2 R blk _ K x h (by
      intro v hv
      simp only [List.mem_append] at hv
      rcases hv with (k | k) | k
      · exact hd.2.1 v k
      · obtain ⟨o, _, rfl⟩ := List.mem_map.1 k; exact hρ o
      · exact hd.2.2 v k)
    simp only [semR, hd.1, Option.bind_some]
    simpa only [List.map_append, List.map_map, Function.comp_def] using this
  · cases h

def semWT (P : Program) (TΓ : TGam) (d : Nat) (ρ : Operand → TV) (blk : TBlk) (op : Op) (K : TV → TBlk → Option R) : Option R :=
  match op with
  | .store t x v => storeT P blk t (ρ x) (ρ v) fun b => K .und b
  | .call { callee := .builtin .append, args, argTypes } => (args[0]?).bind fun s => (args[1]?).bind fun x => appendT P d blk argTypes.toList (ρ s) (ρ x) K
  | .call { callee := .builtin .copy, args, argTypes } => (args[0]?).bind fun s => (args[1]?).bind fun x => copyT P blk argTypes.toList (ρ s) (ρ x) K
  | .call { callee := .builtin .clear, args, argTypes } => (args[0]?).bind fun s => clearT P blk argTypes.toList (ρ s) K
  | .call { callee := .value (.func f), args, .. } => match TΓ f with
    | some (.g c) => match freshT blk d with
      | true => c d blk (args.toList.map ρ) K
      | false => none
    | _ => none
  | _ => none

theorem semWT_ok {P : Program} {Γ : Gam} {TΓ : TGam} (hT : GamT Γ TΓ) {d : Nat} {ρ : Operand → TV} {blk : TBlk} {op : Op} {K : TV → TBlk → Option R} {x : R} (h : semWT P TΓ d ρ blk op K = some x) (hρ : ∀ o, okV (lenOk blk) (ρ o)) (hb : blkOk blk) :
    WVR blk (semW P Γ d (fun o => (ρ o).den) (denB blk) op) K x := by
  unfold semWT at h
  split at h
  · rename_i t a v
    obtain ⟨blk', h1, h2, h3, h⟩ := storeT_ok h (hρ v) hb
    exact ⟨.und, blk', by simp only [semW, h1, Option.map_some, TV.den], by simp only [okV], h2, h3, h⟩
  · rename_i args argTypes _
    replace h := bindT_some h
    obtain ⟨s, hs, h⟩ := h
    replace h := bindT_some h
    obtain ⟨a, ha, h⟩ := h
    have := appendT_ok h (hρ s) (hρ a) hb
    simpa only [semW, hs, ha, Option.bind_some] using this
  · rename_i args argTypes _
    replace h := bindT_some h
    obtain ⟨s, hs, h⟩ := h
    replace h := bindT_some h
    obtain ⟨a, ha, h⟩ := h
    have := copyT_ok h (hρ s) (hρ a) hb
    simpa only [semW, hs, ha, Option.bind_some] using this
  · rename_i args argTypes _
    replace h := bindT_some h
    obtain ⟨s, hs, h⟩ := h
    have := clearT_ok h (hρ s) hb
    simpa only [semW, hs, Option.bind_some] using this
  · rename_i f args _
    split at h
    case h_2 => cases h
    rename_i c hc
    split at h
    case h_2 => cases h
    rename_i hf
    obtain ⟨G, hG, k⟩ := hT f _ hc
    have := k R d blk _ K x h hf (by intro v hv; obtain ⟨o, _, rfl⟩ := List.mem_map.1 hv; exact hρ o) hb
    simp only [semW, hG, freshT_den hf, if_true]
    simpa only [List.map_map, Function.comp_def] using this
  · cases h

inductive ClsT | N | R | W

def clsT (P : Program) (TΓ : TGam) : Op → ClsT
  | .load .. => .R
  | .store .. => .W
  | .convert src _ _ => match isSliceT P src with
    | true => .R
    | false => .N
  | .call { callee := .builtin b, .. } => match b with
    | .len | .min | .max => .N
    | _ => .W
  | .call { callee := .value (.func f), .. } => match TΓ f with
    | some (.g _) => .W
    | _ => .R
  | .call _ => .R
  | _ => .N

def newT (st : TSt) (dst : Option Nat) (v : TV) (B : Option TB) (K : TSt → Option R) : Option R := match B with
  | none => K (st.put dst v)
  | some B => match dst with
    | some d => match st.blk (.loc d 0) with
      | none => K ⟨upd st.env d v, upd st.blk (.loc d 0) (some B)⟩
      | some _ => none
    | none => none

def stepT (P : Program) (TΓ : TGam) (n : Nat) (o : Oper) (st : TSt) (K : TSt → Option R) : Option R :=
  match dstOk n o.dst with
  | false => none
  | true => match clsT P TΓ o.op with
    | .N => semNT P (.loc (o.dst.getD 0) 0) (opndT st.env) o.op fun v B => newT st o.dst v B K
    | .R => semRT P TΓ (opndT st.env) st.blk o.op fun v => K (st.put o.dst v)
    | .W => semWT P TΓ (o.dst.getD n) (opndT st.env) st.blk o.op fun v blk' => K (TSt.put ⟨st.env, blk'⟩ o.dst v)

def StR (o : Option St) (K : TSt → Option R) (x : R) : Prop := ∃ st', o = some st'.den ∧ st'.Ok ∧ K st' = some x

theorem cls_of {P : Program} {Γ : Gam} {TΓ : TGam} (hT : GamT Γ TΓ) {op : Op} : (clsT P TΓ op = .N → cls P Γ op = .N) ∧ (clsT P TΓ op = .W → cls P Γ op = .W) ∧
    ∀ {ρ : Operand → TV} {blk : TBlk} {K : TV → Option R} {x : R}, clsT P TΓ op = .R → semRT P TΓ ρ blk op K = some x → (∀ f, op = op → (ρ (.func f)) = .clo (.func f) [] []) → cls P Γ op = .R := by
  unfold clsT
  split
  · exact ⟨by simp, by simp, fun _ _ _ => rfl⟩
  · exact ⟨by simp, fun _ => rfl, by simp⟩
  · rename_i src _ _
    cases hs : isSliceT P src with
    | true => exact ⟨by simp, by simp, fun _ _ _ => by simp [cls, hs]⟩
    | false => exact ⟨fun _ => by simp [cls, hs], by simp, by simp⟩
  · rename_i b _ _
    cases b <;> first | exact ⟨fun _ => rfl, by simp, by simp⟩ | exact ⟨by simp, fun _ => rfl, by simp⟩
  · rename_i f args _
    cases hf : TΓ f with
    | none =>
      refine ⟨by simp, by simp, fun {ρ blk K x} _ h hfn => ?_⟩
      simp only [semRT] at h
      rw [hfn f rfl] at h
      simp [asFunT, hf] at h
    | some s =>
      cases s with
      | p c =>
        obtain ⟨⟨F, hF⟩, _⟩ := hT f _ hf
        exact ⟨by simp, by simp, fun _ _ _ => by simp [cls, hF]⟩
      | g c =>
        obtain ⟨G, hG, _⟩ := hT f _ hf
        exact ⟨by simp, fun _ => by simp [cls, hG], by simp⟩
  · rename_i c h1 h2
    refine ⟨by simp, by simp, fun _ _ _ => ?_⟩
    unfold cls
    split <;> first | rfl | (rename_i e; cases e; done) | skip
    all_goals first | (rename_i k; exact (k c rfl).elim) | (rename_i k; cases k; first | exact (h1 _ _ _ rfl).elim | exact (h2 _ _ _ rfl).elim)
  · rename_i h1 h2 h3 h4 h5 h6
    refine ⟨fun _ => ?_, by simp, by simp⟩
    unfold cls
    split <;> first | rfl | skip
    · exact (h1 _ _ rfl).elim
    · exact (h2 _ _ _ rfl).elim
    · exact (h3 _ _ _ rfl).elim
    · exact (h6 _ rfl).elim
    · exact (h6 _ rfl).elim
    · exact (h6 _ rfl).elim

theorem stepT_ok {P : Program} {Γ : Gam} {TΓ : TGam} (hT : GamT Γ TΓ) {n : Nat} {o : Oper} {st : TSt} {K : TSt → Option R} {x : R} (h : stepT P TΓ n o st K = some x) (hs : st.Ok) : StR (stepA P Γ n o st.den) K x := by
  have hρ := opndT_ok hs.env
  have hρd : (fun o => (opndT st.env o).den) = opnd (denE st.env) := funext fun o => opndT_den st.env o
  unfold stepT at h
  unfold stepA
  split at h
  · cases h
  rename_i hd
  rw [hd]
  simp only [if_true]
  have hc := cls_of (R := R) (P := P) hT (op := o.op)
  split at h
  · rename_i hcl
    rw [hc.1 hcl]
    obtain ⟨v, B, h1, h, h2, h3⟩ := semNT_ok hρ h
    rw [hρd] at h1
    simp only [TSt.den, h1]
    cases B with
    | none =>
      refine ⟨st.put o.dst v, ?_, TSt.put_ok hs (okV.mono (fun q n k => ?_) v h2), h⟩
      · cases o.dst <;> simp only [Option.map_none, TSt.put, St.put, TSt.den, denE_upd]
      · rcases k with k | ⟨_, _, _, e, _⟩
        · exact k
        · cases e
    | some B =>
      simp only [newT] at h
      cases hdst : o.dst with
      | none => rw [hdst] at h; cases h
      | some d =>
        rw [hdst] at h h2
        simp only [Option.getD_some] at h h2
        split at h
        · rename_i hn
          have hL : ∀ q n, lenOk st.blk q n → lenOk (upd st.blk (.loc d 0) (some B)) q n := TBlk.newL hn
          simp only [Option.map_some]
          rw [denB_none.2 hn]
          refine ⟨_, ?_, ⟨upd_env_ok (fun t => okV.mono hL _ (hs.env t)) (okV.mono (fun q m k => ?_) v h2), TBlk.okB hs.blk hL (fun cs e => okVs.mono hL cs (h3 cs (by rw [e])))⟩, h⟩
          · simp only [TSt.den, St.put, denE_upd, denB_upd]
          · rcases k with k | ⟨rfl, τ, rows, e, hm⟩
            · exact hL q m k
            · cases e; exact lenOk_self hm
        · cases h
  · rename_i hcl
    rw [hc.2.2 hcl h (fun f _ => rfl)]
    obtain ⟨v, h1, h2, h⟩ := semRT_ok hT h hρ hs.blk
    rw [hρd] at h1
    simp only [TSt.den, h1, Option.map_some]
    refine ⟨st.put o.dst v, ?_, TSt.put_ok hs h2, h⟩
    cases o.dst <;> simp only [TSt.put, St.put, TSt.den, denE_upd]
  · rename_i hcl
    rw [hc.2.1 hcl]
    obtain ⟨v, blk', h1, h2, h3, h4, h⟩ := semWT_ok hT h hρ hs.blk
    rw [hρd] at h1
    simp only [TSt.den, h1]
    refine ⟨_, ?_, TSt.put_ok (st := ⟨st.env, blk'⟩) ⟨fun t => okV.mono h3 _ (hs.env t), h4⟩ h2, h⟩
    cases o.dst <;> simp only [TSt.put, St.put, TSt.den, denE_upd]

/-- What a test has shown is known from there on. -/
def TSt.know (st : TSt) (t : Nat) (b : Bool) : TSt := ⟨upd st.env t (.raw (.bool b)), st.blk⟩
theorem TSt.know_den {st : TSt} {t : Nat} {b : Bool} (h : asBoolT (st.env t) = some b) : (st.know t b).den = st.den := by
  have he : (st.env t).den = .pd (.val (.bool b)) := by
    unfold asBoolT at h
    split at h <;> cases h <;> (rename_i e; rw [e]; rfl)
  unfold TSt.know TSt.den
  congr 1
  rw [denE_upd]
  funext x; unfold upd; split
  · subst_vars; exact he.symm
  · rfl
theorem TSt.know_ok {st : TSt} {t : Nat} {b : Bool} (h : st.Ok) : (st.know t b).Ok := ⟨upd_env_ok h.env (by simp only [okV]), h.blk⟩

def isSkipped : TV → Bool
  | .raw (.tuple ⟨[]⟩) => true
  | _ => false
theorem isSkipped_den {v : TV} (h : isSkipped v = true) (want : Bool) : gateA v.den want = some false := by
  unfold isSkipped at h
  split at h
  · rfl
  · cases h
theorem gateA_bool {v : AV} {b : Bool} (want : Bool) (h : asBool v = some b) : gateA v want = some (b == want) := by
  unfold gateA
  split
  · cases h
  · rw [h]; rfl

def stepGT (P : Program) (TΓ : TGam) (n : Nat) (ds : List (Option Tmp)) (o : Oper) (st : TSt) (K : TSt → Option R) : Option R :=
  match o.guard with
  | none => stepT P TΓ n o st K
  | some (j, want) => ((ds[j]?).bind id).bind fun t => match dstOk n o.dst with
    | false => none
    | true => match isSkipped (st.env t) with
      | true => K (st.put o.dst (.raw undef))
      | false => (asBoolT (st.env t)).bind fun b => match want with
        | true => cond b (stepT P TΓ n o (st.know t true) K) (K ((st.know t false).put o.dst (.raw undef)))
        | false => cond b (K ((st.know t true).put o.dst (.raw undef))) (stepT P TΓ n o (st.know t false) K)
theorem stepGT_ok {P : Program} {Γ : Gam} {TΓ : TGam} (hT : GamT Γ TΓ) {n : Nat} {ds : List (Option Tmp)} {o : Oper} {st : TSt} {K : TSt → Option R} {x : R} (h : stepGT P TΓ n ds o st K = some x) (hs : st.Ok) :
    StR (stepG P Γ n ds o st.den) K x := by
  unfold stepGT at h
  unfold stepG
  split at h
  · rename_i hg; rw [hg]; exact stepT_ok hT h hs
  · rename_i j want hg
    rw [hg]
    replace h := bindT_some h
    obtain ⟨t, ht, h⟩ := h
    split at h
    · cases h
    rename_i hd
    split at h
    · rename_i hsk
      simp only [ht, Option.bind_some, show gateA (st.den.env t) want = some false from isSkipped_den hsk want, Bool.false_eq_true, if_false]
      rw [if_pos hd]
      exact ⟨_, by rw [TSt.put_den]; rfl, TSt.put_ok hs (by simp only [okV]), h⟩
    replace h := bindT_some h
    obtain ⟨b, hb, h⟩ := h
    have hb' : gateA (st.den.env t) want = some (b == want) := gateA_bool want (asBoolT_den hb)
    simp only [ht, Option.bind_some, hb']
    have skip : ∀ c, b = c → K ((st.know t c).put o.dst (.raw undef)) = some x → StR (if dstOk n o.dst = true then some (st.den.put o.dst skipped) else none) K x := by
      rintro c rfl h
      rw [if_pos hd]
      exact ⟨_, by rw [TSt.put_den, TSt.know_den hb]; rfl, TSt.put_ok (TSt.know_ok hs) (by simp only [okV]), h⟩
    have step : ∀ c, b = c → stepT P TΓ n o (st.know t c) K = some x → StR (stepA P Γ n o st.den) K x := by
      rintro c rfl h
      have := stepT_ok hT h (TSt.know_ok hs)
      rwa [TSt.know_den hb] at this
    cases want <;> cases b <;> simp only [cond_true, cond_false] at h
    · exact step _ rfl h
    · exact skip _ rfl h
    · exact skip _ rfl h
    · exact step _ rfl h

def evalOpsT (P : Program) (TΓ : TGam) (n : Nat) (ds : List (Option Tmp)) : List Oper → TSt → (TSt → Option R) → Option R
  | [], st, K => K st
  | o :: r, st, K => stepGT P TΓ n ds o st fun st => evalOpsT P TΓ n ds r st K
theorem evalOpsT_ok {P : Program} {Γ : Gam} {TΓ : TGam} (hT : GamT Γ TΓ) {n : Nat} {ds : List (Option Tmp)} {K : TSt → Option R} {x : R} : ∀ {l : List Oper} {st : TSt}, evalOpsT P TΓ n ds l st K = some x → st.Ok →
    StR (evalOps P Γ n ds l st.den) K x
  | [], st, h, hs => ⟨st, rfl, hs, h⟩
  | o :: l, st, h, hs => by
    obtain ⟨s1, h1, h2, h⟩ := stepGT_ok hT h hs
    obtain ⟨s2, h3, h4, h⟩ := evalOpsT_ok hT h h2
    exact ⟨s2, by simp only [evalOps, h1, Option.bind_some, h3], h4, h⟩

end
end Go.Abs

/- States as shapes and the data in them. -/
namespace Go.Abs
open Go.RowKit

abbrev NM := List (Ref × Option Ref)
def look : NM → Ref → Option (Option Ref)
  | [], _ => none
  | (r, o) :: N, x => if x = r then some o else look N x
def bindN (N : NM) (r : Ref) (o : Option Ref) : Option NM := match look N r with
  | none => some ((r, o) :: N)
  | some o' => if o' = o then some N else none
theorem bindN_spec {N N' : NM} {r : Ref} {o : Option Ref} (h : bindN N r o = some N') : (∀ x q, look N x = some q → look N' x = some q) ∧ look N' r = some o := by
  unfold bindN at h
  split at h
  · rename_i hn
    cases h
    refine ⟨fun x q hx => ?_, by simp [look]⟩
    simp only [look]
    split
    · subst_vars; rw [hn] at hx; cases hx
    · exact hx
  · rename_i o' hr
    split at h
    · cases h; subst_vars; exact ⟨fun _ _ k => k, hr⟩
    · cases h

def sameFn : Fn → Fn → Bool
  | .func a, .func b => Nat.beq a b
  | _, _ => false
theorem sameFn_eq {f g : Fn} (h : sameFn f g = true) : f = g := by
  unfold sameFn at h; split at h
  · rw [Nat.eq_of_beq_eq_true h]
  · cases h

/-! ### The data of a value that has a shape -/
mutual
def matchV (A : Ref → Bool) : TV → TV → NM → Option (List Dyn × NM)
  | .und, _, N => some ([], N)
  | .nil, .nil, N => some ([], N)
  | .raw (.pointer none), .raw (.pointer none), N => some ([], N)
  | .dat τ _, .dat τ' x, N => match Ty.cast τ' τ x with
    | some y => some ([⟨τ, y⟩], N)
    | none => none
  | .dat (.sl r) _, .nil, N => some ([⟨.sl r, []⟩], N)
  | .sdat τ _, .sdat τ' x, N => match Ty.cast τ' τ x with
    | some y => some ([⟨τ, y⟩], N)
    | none => none
  | .sdat τ _, .agg cs, N => match capC τ cs with
    | some (x, []) => some ([⟨τ, x⟩], N)
    | _ => none
  | .epd τ _ o, .epd τ' x o', N => match Nat.beq o o', Ty.cast τ' τ x with
    | true, some y => some ([⟨τ, y⟩], N)
    | _, _ => none
  | .agg ts, .agg cs, N => matchVs A ts cs N
  | .agg ts, .sdat τ x, N => matchVs A ts (explode τ x) N
  | .tup ts, .tup cs, N => matchVs A ts cs N
  | .ptr r o, .ptr r' o', N => match Nat.beq o o', bindN N r (some r') with
    | true, some N => some ([], N)
    | _, _ => none
  | .slw r sz _, .slw r' sz' _, N => match A r' && Nat.beq sz sz', bindN N r (some r') with
    | true, some N => some ([], N)
    | _, _ => none
  | .slw r _ _, .nil, N => match bindN N r none with
    | some N => some ([], N)
    | none => none
  | .clo f a b, .clo f' a' b', N => match sameFn f f', matchVs A a a' N with
    | true, some (ds, N) => match matchVs A b b' N with
      | some (es, N) => some (ds ++ es, N)
      | none => none
    | _, _ => none
  | .iface t v, .iface t' v', N => match Nat.beq t t' with
    | true => matchV A v v' N
    | false => none
  | _, _, _ => none
def matchVs (A : Ref → Bool) : List TV → List TV → NM → Option (List Dyn × NM)
  | [], [], N => some ([], N)
  | t :: ts, v :: vs, N => match matchV A t v N with
    | some (ds, N) => match matchVs A ts vs N with
      | some (es, N) => some (ds ++ es, N)
      | none => none
    | none => none
  | _, _, _ => none
end

/-! ### .. and back -/
mutual
def fillV (L : Ref → Nat) : TV → List Dyn → Option (TV × List Dyn)
  | .dat τ _, ds => match ds with
    | ⟨τ', x⟩ :: ds => match Ty.cast τ' τ x with
      | some y => some (.dat τ y, ds)
      | none => none
    | [] => none
  | .sdat τ _, ds => match ds with
    | ⟨τ', x⟩ :: ds => match Ty.cast τ' τ x with
      | some y => some (.sdat τ y, ds)
      | none => none
    | [] => none
  | .epd τ _ o, ds => match ds with
    | ⟨τ', x⟩ :: ds => match Ty.cast τ' τ x with
      | some y => some (.epd τ y o, ds)
      | none => none
    | [] => none
  | .agg ts, ds => match fillVs L ts ds with
    | some (vs, ds) => some (.agg vs, ds)
    | none => none
  | .tup ts, ds => match fillVs L ts ds with
    | some (vs, ds) => some (.tup vs, ds)
    | none => none
  | .clo f a b, ds => match fillVs L a ds with
    | some (a, ds) => match fillVs L b ds with
      | some (b, ds) => some (.clo f a b, ds)
      | none => none
    | none => none
  | .iface t v, ds => match fillV L v ds with
    | some (v, ds) => some (.iface t v, ds)
    | none => none
  | .slw r sz _, ds => some (.slw r sz (L r), ds)
  | .und, ds => some (.und, ds)
  | .nil, ds => some (.nil, ds)
  | .raw v, ds => some (.raw v, ds)
  | .ptr r o, ds => some (.ptr r o, ds)
  | _, _ => none
def fillVs (L : Ref → Nat) : List TV → List Dyn → Option (List TV × List Dyn)
  | [], ds => some ([], ds)
  | t :: ts, ds => match fillV L t ds with
    | some (v, ds) => match fillVs L ts ds with
      | some (vs, ds) => some (v :: vs, ds)
      | none => none
    | none => none
end

mutual
def holesV : TV → List Ty
  | .dat τ _ => [τ]
  | .sdat τ _ => [τ]
  | .epd τ _ _ => [τ]
  | .agg ts => holesVs ts
  | .tup ts => holesVs ts
  | .clo _ a b => holesVs a ++ holesVs b
  | .iface _ v => holesV v
  | _ => []
def holesVs : List TV → List Ty
  | [] => []
  | t :: ts => holesV t ++ holesVs ts
end

theorem encC_lesP : ∀ (τ : Ty) (cs : List TV) (x : τ.el) (rest : List TV), capC τ cs = some (x, rest) → ∃ pre, cs = pre ++ rest ∧ ∀ ds us, AVlesP ds us → AVlesP (encC τ x ++ ds) (pre.map TV.den ++ us) := by
  intro τ
  have leaf : ∀ {τ τ' : Ty} {x : τ'.el} {y : τ.el}, τ.isLeaf = true → Ty.cast τ' τ x = some y → ∀ ds us, AVlesP ds us → AVlesP (encC τ y ++ ds) ([TV.dat τ' x].map TV.den ++ us) := by
    intro τ τ' x y hl h ds us hd
    obtain ⟨e, h⟩ := Ty.cast_some h
    subst e; subst h
    simp only [encC_leaf hl, List.map_cons, List.map_nil, TV.den, List.cons_append, List.nil_append]
    generalize encL τ' x = d
    unfold AVlesP
    exact ⟨rfl, hd⟩
  induction τ with
  | pair a b iha ihb =>
    intro cs x rest h
    simp only [capC] at h
    split at h
    · rename_i x1 cs1 h1
      split at h
      · rename_i y cs2 h2
        cases h
        obtain ⟨p1, e1, k1⟩ := iha _ _ _ h1
        obtain ⟨p2, e2, k2⟩ := ihb _ _ _ h2
        refine ⟨p1 ++ p2, by rw [e1, e2]; simp, fun ds us hd => ?_⟩
        simp only [encC, List.append_assoc, List.map_append]
        exact k1 _ _ (k2 _ _ hd)
      · cases h
    · cases h
  | unit => intro cs x rest h; simp only [capC] at h; cases h; exact ⟨[], rfl, fun _ _ k => k⟩
  | nat => intro cs x rest h; simp only [capC] at h; cases h
  | sl r _ =>
    intro cs x rest h
    simp only [capC] at h
    split at h
    · split at h
      · rename_i y hc; cases h; exact ⟨[_], rfl, leaf rfl hc⟩
      · cases h
    · cases h
      refine ⟨[.nil], rfl, fun ds us hd => ?_⟩
      simp only [encC, List.map_nil, List.cons_append, List.nil_append, List.map_cons, TV.den]
      unfold AVlesP; exact ⟨rfl, hd⟩
    · cases h
  | int k =>
    intro cs x rest h
    simp only [capC] at h
    split at h
    · split at h
      · rename_i y hc; cases h; exact ⟨[_], rfl, leaf rfl hc⟩
      · cases h
    · cases h
  | bool =>
    intro cs x rest h
    simp only [capC] at h
    split at h
    · split at h
      · rename_i y hc; cases h; exact ⟨[_], rfl, leaf rfl hc⟩
      · cases h
    · cases h
  | str =>
    intro cs x rest h
    simp only [capC] at h
    split at h
    · split at h
      · rename_i y hc; cases h; exact ⟨[_], rfl, leaf rfl hc⟩
      · cases h
    · cases h

/-- What the names mean. -/
structure NOk (A : Ref → Bool) (blk : TBlk) (N : NM) (L : Ref → Nat) (NT : NameTab) : Prop where
  find : ∀ r o, look N r = some o → (findN NT r).map (·.1) = some o
  len : ∀ r r' n, look N r = some (some r') → A r' = true → lenOk blk r' n → L r = n
  zero : ∀ r, look N r = some none → L r = 0
theorem NOk.mono {A : Ref → Bool} {blk : TBlk} {N N' : NM} {L : Ref → Nat} {NT : NameTab} (h : NOk A blk N' L NT) (hN : ∀ x q, look N x = some q → look N' x = some q) : NOk A blk N L NT :=
  ⟨fun r o k => h.find r o (hN r o k), fun r r' n k => h.len r r' n (hN r _ k), fun r k => h.zero r (hN r _ k)⟩

def MR (A : Ref → Bool) (blk : TBlk) (L : Ref → Nat) (NT : NameTab) (t v : TV) (N : NM) (ds : List Dyn) (N' : NM) : Prop :=
  (∀ x q, look N x = some q → look N' x = some q) ∧ (NOk A blk N' L NT → ∀ rest, ∃ v', fillV L t (ds ++ rest) = some (v', rest) ∧ AVle NT v'.den v.den ∧ okV (fun r n => n = L r) v')
def MRs (A : Ref → Bool) (blk : TBlk) (L : Ref → Nat) (NT : NameTab) (t v : List TV) (N : NM) (ds : List Dyn) (N' : NM) : Prop :=
  (∀ x q, look N x = some q → look N' x = some q) ∧ (NOk A blk N' L NT → ∀ rest, ∃ v', fillVs L t (ds ++ rest) = some (v', rest) ∧ AVles NT (TV.dens v') (TV.dens v) ∧ okVs (fun r n => n = L r) v')

section
variable {A : Ref → Bool} {blk : TBlk} {L : Ref → Nat} {NT : NameTab}

theorem AVle_same (d : PD) : AVle NT (.pd d) (.pd d) := by unfold AVle; rfl

theorem MRs.comp {t1 v1 t2 v2 : List TV} {N N1 N2 : NM} {ds1 ds2 : List Dyn} {rest : List Dyn} (h1 : MRs A blk L NT t1 v1 N ds1 N1) (h2 : MRs A blk L NT t2 v2 N1 ds2 N2) (hok : NOk A blk N2 L NT) :
    ∃ a b, fillVs L t1 (ds1 ++ ds2 ++ rest) = some (a, ds2 ++ rest) ∧ fillVs L t2 (ds2 ++ rest) = some (b, rest) ∧ AVles NT (TV.dens a) (TV.dens v1) ∧ AVles NT (TV.dens b) (TV.dens v2) ∧ okVs (fun r n => n = L r) a ∧ okVs (fun r n => n = L r) b := by
  obtain ⟨a, k1, k2, k3⟩ := h1.2 (hok.mono h2.1) (ds2 ++ rest)
  obtain ⟨b, k4, k5, k6⟩ := h2.2 hok rest
  exact ⟨a, b, by rw [List.append_assoc]; exact k1, k4, k2, k5, k3, k6⟩

mutual
theorem matchV_ok : ∀ (t v : TV) (N : NM) (ds : List Dyn) (N' : NM), matchV A t v N = some (ds, N') → okV (lenOk blk) v → MR A blk L NT t v N ds N' := by
  intro t v N ds N' h hv
  unfold matchV at h
  split at h
  · cases h
    exact ⟨fun _ _ k => k, fun _ rest => ⟨.und, by simp only [fillV, List.nil_append], by simp only [TV.den, AVle], by simp only [okV]⟩⟩
  · cases h
    exact ⟨fun _ _ k => k, fun _ rest => ⟨.nil, by simp only [fillV, List.nil_append], by simp only [TV.den, AVle], by simp only [okV]⟩⟩
  · cases h
    exact ⟨fun _ _ k => k, fun _ rest => ⟨_, by simp only [fillV, List.nil_append]; rfl, by simp only [TV.den]; exact AVle_same _, by simp only [okV]⟩⟩
  · split at h
    · rename_i y hc
      cases h
      obtain ⟨e, hc⟩ := Ty.cast_some hc
      subst e; subst hc
      exact ⟨fun _ _ k => k, fun _ rest => ⟨_, by simp only [fillV, List.cons_append, List.nil_append, Ty.cast_self]; rfl, by simp only [TV.den]; exact AVle_same _, by simp only [okV]⟩⟩
    · cases h
  · cases h
    exact ⟨fun _ _ k => k, fun _ rest => ⟨_, by simp only [fillV, List.cons_append, List.nil_append, Ty.cast_self]; rfl, by simp only [TV.den, encL, List.map_nil]; unfold AVle; rfl, by simp only [okV]⟩⟩
  · split at h
    · rename_i y hc
      cases h
      obtain ⟨e, hc⟩ := Ty.cast_some hc
      subst e; subst hc
      exact ⟨fun _ _ k => k, fun _ rest => ⟨_, by simp only [fillV, List.cons_append, List.nil_append, Ty.cast_self]; rfl, by simp only [TV.den]; exact AVle_same _, by simp only [okV]⟩⟩
    · cases h
  · split at h
    · rename_i x hc
      cases h
      obtain ⟨pre, e, k⟩ := encC_lesP _ _ _ _ hc
      rw [List.append_nil] at e; subst e
      refine ⟨fun _ _ k => k, fun _ rest => ⟨_, by simp only [fillV, List.cons_append, List.nil_append, Ty.cast_self]; rfl, ?_, by simp only [okV]⟩⟩
      have := k [] [] (by unfold AVlesP; trivial)
      simp only [List.append_nil] at this
      simp only [TV.den, TV.dens_eq]
      unfold AVle; exact this
    · cases h
  · split at h
    · rename_i y hb hc
      cases h
      obtain ⟨e, hc⟩ := Ty.cast_some hc
      subst e; subst hc
      rw [Nat.eq_of_beq_eq_true hb]
      exact ⟨fun _ _ k => k, fun _ rest => ⟨_, by simp only [fillV, List.cons_append, List.nil_append, Ty.cast_self]; rfl, by simp only [TV.den]; exact AVle_same _, by simp only [okV]⟩⟩
    · cases h
  · rename_i ts cs
    simp only [okV] at hv
    obtain ⟨h1, h2⟩ := matchVs_ok ts cs N ds N' h hv
    refine ⟨h1, fun hok rest => ?_⟩
    obtain ⟨vs, k1, k2, k3⟩ := h2 hok rest
    exact ⟨.agg vs, by simp only [fillV, k1], by simp only [TV.den, AVle]; exact k2, by simp only [okV]; exact k3⟩
  · rename_i ts τ x
    obtain ⟨h1, h2⟩ := matchVs_ok ts _ N ds N' h (okVs_iff.2 (explode_ok _ τ x))
    refine ⟨h1, fun hok rest => ?_⟩
    obtain ⟨vs, k1, k2, k3⟩ := h2 hok rest
    refine ⟨.agg vs, by simp only [fillV, k1], ?_, by simp only [okV]; exact k3⟩
    rw [TV.dens_eq (explode τ x), explode_den] at k2
    simp only [TV.den, AVle]; exact k2
  · rename_i ts cs
    simp only [okV] at hv
    obtain ⟨h1, h2⟩ := matchVs_ok ts cs N ds N' h hv
    refine ⟨h1, fun hok rest => ?_⟩
    obtain ⟨vs, k1, k2, k3⟩ := h2 hok rest
    exact ⟨.tup vs, by simp only [fillV, k1], by simp only [TV.den, AVle]; exact k2, by simp only [okV]; exact k3⟩
  · rename_i r o r' o'
    split at h
    · rename_i N1 hb hN
      cases h
      obtain ⟨n1, n2⟩ := bindN_spec hN
      rw [Nat.eq_of_beq_eq_true hb]
      exact ⟨n1, fun hok rest => ⟨.ptr r o', by simp only [fillV, List.nil_append], by simp only [TV.den, AVle]; exact ⟨hok.find r _ n2, by trivial⟩, by simp only [okV]⟩⟩
    · cases h
  · rename_i r sz m r' sz' m'
    split at h
    · rename_i N1 hb hN
      cases h
      obtain ⟨n1, n2⟩ := bindN_spec hN
      simp only [Bool.and_eq_true] at hb
      simp only [okV] at hv
      refine ⟨n1, fun hok rest => ⟨.slw r sz (L r), by simp only [fillV, List.nil_append], ?_, by simp only [okV]⟩⟩
      simp only [TV.den, AVle]
      exact ⟨hok.find r _ n2, (Nat.eq_of_beq_eq_true hb.2).symm, trivial, (hok.len r r' m' n2 hb.1 hv).symm⟩
    · cases h
  · rename_i r sz m
    split at h
    · rename_i N1 hN
      cases h
      obtain ⟨n1, n2⟩ := bindN_spec hN
      refine ⟨n1, fun hok rest => ⟨.slw r sz (L r), by simp only [fillV, List.nil_append], ?_, by simp only [okV]⟩⟩
      simp only [TV.den, AVle]
      exact ⟨hok.find r _ n2, trivial, (hok.zero r n2).symm⟩
    · cases h
  · rename_i f a b f' a' b'
    split at h
    · rename_i ds1 N1 hf h1
      split at h
      · rename_i ds2 N2 h2
        cases h
        simp only [okV] at hv
        have m1 := matchVs_ok a a' N ds1 N1 h1 hv.1
        have m2 := matchVs_ok b b' N1 ds2 N' h2 hv.2
        refine ⟨fun x q k => m2.1 x q (m1.1 x q k), fun hok rest => ?_⟩
        obtain ⟨x, y, k1, k2, k3, k4, k5, k6⟩ := MRs.comp (rest := rest) m1 m2 hok
        refine ⟨.clo f x y, by simp only [fillV, k1, k2], ?_, by simp only [okV]; exact ⟨k5, k6⟩⟩
        simp only [TV.den, AVle]
        exact ⟨(sameFn_eq hf).symm, k3, k4⟩
      · cases h
    · cases h
  · rename_i t u t' u'
    split at h
    · rename_i hb
      simp only [okV] at hv
      obtain ⟨h1, h2⟩ := matchV_ok u u' N ds N' h hv
      refine ⟨h1, fun hok rest => ?_⟩
      obtain ⟨v', k1, k2, k3⟩ := h2 hok rest
      exact ⟨.iface t v', by simp only [fillV, k1], by simp only [TV.den, AVle]; exact ⟨(Nat.eq_of_beq_eq_true hb).symm, k2⟩, by simp only [okV]; exact k3⟩
    · cases h
  · cases h
  termination_by t0 => SizeOf.sizeOf t0
theorem matchVs_ok : ∀ (ts vs : List TV) (N : NM) (ds : List Dyn) (N' : NM), matchVs A ts vs N = some (ds, N') → okVs (lenOk blk) vs → MRs A blk L NT ts vs N ds N' := by
  intro ts vs N ds N' h hv
  unfold matchVs at h
  split at h
  · cases h
    exact ⟨fun _ _ k => k, fun _ rest => ⟨[], by simp only [fillVs, List.nil_append], by simp only [TV.dens, AVles], by simp only [okVs]⟩⟩
  · rename_i t ts v vs
    split at h
    · rename_i ds1 N1 h1
      split at h
      · rename_i ds2 N2 h2
        cases h
        simp only [okVs] at hv
        have m1 := matchV_ok t v N ds1 N1 h1 hv.1
        have m2 := matchVs_ok ts vs N1 ds2 N' h2 hv.2
        refine ⟨fun x q k => m2.1 x q (m1.1 x q k), fun hok rest => ?_⟩
        obtain ⟨x, k1, k2, k3⟩ := m1.2 (hok.mono m2.1) (ds2 ++ rest)
        obtain ⟨y, k4, k5, k6⟩ := m2.2 hok rest
        refine ⟨x :: y, by simp only [fillVs, List.append_assoc, k1, k4], ?_, by simp only [okVs]; exact ⟨k3, k6⟩⟩
        simp only [TV.dens, AVles]; exact ⟨k2, k5⟩
      · cases h
    · cases h
  · cases h
  termination_by ts0 => SizeOf.sizeOf ts0
end
end
end Go.Abs

/- A state that has a shape is what its data fill the shape with. -/
namespace Go.Abs
open Go.RowKit

structure Tm where
  arrs : List (Ref × Ty)
  env : List (Nat × TV)
  vars : List (Ref × List TV)

def holesE : List (Nat × TV) → List Ty
  | [] => []
  | (_, v) :: l => holesV v ++ holesE l
def holesB : List (Ref × List TV) → List Ty
  | [] => []
  | (_, vs) :: l => holesVs vs ++ holesB l
def holesA : List (Ref × Ty) → List Ty
  | [] => []
  | (_, τ) :: l => .sl τ :: holesA l
def Tm.holes (T : Tm) : List Ty := holesA T.arrs ++ (holesE T.env ++ holesB T.vars)

abbrev RowsD := (τ : Ty) × List τ.el
structure Fl where
  arrs : List (Ref × RowsD)
  env : List (Nat × TV)
  vars : List (Ref × List TV)

def fillArrs : List (Ref × Ty) → List Dyn → Option (List (Ref × RowsD) × List Dyn)
  | [], ds => some ([], ds)
  | (r, τ) :: l, ds => match ds with
    | ⟨τ', x⟩ :: ds => match Ty.cast τ' (.sl τ) x, fillArrs l ds with
      | some rows, some (q, ds) => some ((r, ⟨τ, rows⟩) :: q, ds)
      | _, _ => none
    | [] => none
def fillEnv (L : Ref → Nat) : List (Nat × TV) → List Dyn → Option (List (Nat × TV) × List Dyn)
  | [], ds => some ([], ds)
  | (k, t) :: l, ds => match fillV L t ds with
    | some (v, ds) => match fillEnv L l ds with
      | some (q, ds) => some ((k, v) :: q, ds)
      | none => none
    | none => none
def fillVars (L : Ref → Nat) : List (Ref × List TV) → List Dyn → Option (List (Ref × List TV) × List Dyn)
  | [], ds => some ([], ds)
  | (r, ts) :: l, ds => match fillVs L ts ds with
    | some (vs, ds) => match fillVars L l ds with
      | some (q, ds) => some ((r, vs) :: q, ds)
      | none => none
    | none => none
def findD {α : Type} : List (Ref × α) → Ref → Option α
  | [], _ => none
  | (r, a) :: l, x => if x = r then some a else findD l x
def lenIn (l : List (Ref × RowsD)) (r : Ref) : Nat := match findD l r with
  | some ⟨_, rows⟩ => rows.length
  | none => 0
def Tm.fill (T : Tm) (ds : List Dyn) : Option Fl := match fillArrs T.arrs ds with
  | some (arrs, ds) => match fillEnv (lenIn arrs) T.env ds with
    | some (env, ds) => match fillVars (lenIn arrs) T.vars ds with
      | some (vars, _) => some ⟨arrs, env, vars⟩
      | none => none
    | none => none
  | none => none

def mkET : List (Nat × TV) → Nat → TV
  | [], _ => .und
  | (k, v) :: l, t => if t = k then v else mkET l t
def Fl.blk (F : Fl) : TBlk := fun r => match findD F.vars r with
  | some cs => some (.vars cs)
  | none => match findD F.arrs r with
    | some ⟨τ, rows⟩ => some (.arr τ rows)
    | none => none
def Fl.st (F : Fl) : TSt := ⟨mkET F.env, F.blk⟩

def Fl.names (F : Fl) (N : NM) : NameTab :=
  F.vars.map (fun q => (q.1, (look N q.1).getD none, Block.vars (TV.dens q.2))) ++ F.arrs.map (fun q => (q.1, (look N q.1).getD none, Block.arr q.2.1.sz (q.2.2.map (encC q.2.1))))
def Fl.envA (F : Fl) : List (Nat × AV) := F.env.map fun q => (q.1, q.2.den)

def matchEnv (A : Ref → Bool) (env : Nat → TV) : List (Nat × TV) → NM → Option (List Dyn × NM)
  | [], N => some ([], N)
  | (k, t) :: l, N => match matchV A t (env k) N with
    | some (ds, N) => match matchEnv A env l N with
      | some (es, N) => some (ds ++ es, N)
      | none => none
    | none => none
def matchVars (A : Ref → Bool) (blk : TBlk) : List (Ref × List TV) → NM → Option (List Dyn × NM)
  | [], N => some ([], N)
  | (r, ts) :: l, N => match look N r with
    | some (some r') => match blk r' with
      | some (.vars cs) => match matchVs A ts cs N with
        | some (ds, N) => match matchVars A blk l N with
          | some (es, N) => some (ds ++ es, N)
          | none => none
        | none => none
      | _ => none
    | _ => none
def matchArrs (blk : TBlk) (N : NM) : List (Ref × Ty) → Option (List Dyn)
  | [] => some []
  | (r, τ) :: l => match matchArrs blk N l with
    | some ds => match look N r with
      | some (some r') => match blk r' with
        | some (.arr τ' rows) => match Ty.cast (.sl τ') (.sl τ) rows with
          | some rows => some (⟨.sl τ, rows⟩ :: ds)
          | none => none
        | _ => none
      | some none => some (⟨.sl τ, []⟩ :: ds)
      | none => none
    | none => none

def isArrB : Option TB → Bool
  | some (.arr _ _) => true
  | _ => false

def namesIn (NT : NameTab) : NM → Bool
  | [] => true
  | (r, _) :: N => (findN NT r).isSome && namesIn NT N
def outsIn (N : NM) : List Ref → Bool
  | [] => true
  | r :: l => (match look N r with
    | some (some q) => decide (q = r)
    | _ => false) && outsIn N l

/-- The names of one's caller's come first. -/
def outN : List Ref → NM
  | [] => []
  | r :: l => (r, some r) :: outN l

/-- The data of a state that has this shape. -/
def matchSt (outs : List Ref) (T : Tm) (s : TSt) : Option (els T.holes) :=
  match matchEnv (fun r => isArrB (s.blk r)) s.env T.env (outN outs) with
  | some (d1, N1) => match matchVars (fun r => isArrB (s.blk r)) s.blk T.vars N1 with
    | some (d2, N) => match matchArrs s.blk N T.arrs with
      | some d0 => match pack T.holes (d0 ++ (d1 ++ d2)) with
        | some x => match T.fill (d0 ++ (d1 ++ d2)) with
          | some F => match namesOk (F.names N) F.envA && namesIn (F.names N) N && outsIn N outs with
            | true => some x
            | false => none
          | none => none
        | none => none
      | none => none
    | none => none
  | none => none
def fillSt (T : Tm) (x : els T.holes) : Option TSt := (T.fill (unpack T.holes x)).map Fl.st

theorem look_mem : ∀ {N : NM} {r : Ref} {o : Option Ref}, look N r = some o → (r, o) ∈ N
  | [], _, _, h => by simp [look] at h
  | (r0, o0) :: N, r, o, h => by
    simp only [look] at h
    split at h
    · cases h; subst_vars; simp
    · simp [look_mem h]
theorem namesIn_find {NT : NameTab} : ∀ {N : NM}, namesIn NT N = true → ∀ {r o}, (r, o) ∈ N → (findN NT r).isSome = true
  | [], _, _, _, h => by cases h
  | (r0, o0) :: N, hn, r, o, h => by
    simp only [namesIn, Bool.and_eq_true] at hn
    rcases List.mem_cons.1 h with e | h
    · cases e; exact hn.1
    · exact namesIn_find hn.2 h
theorem outsIn_look {N : NM} : ∀ {l : List Ref}, outsIn N l = true → ∀ r ∈ l, look N r = some (some r)
  | [], _, r, h => by cases h
  | r0 :: l, hn, r, h => by
    simp only [outsIn, Bool.and_eq_true] at hn
    rcases List.mem_cons.1 h with rfl | h
    · have := hn.1
      split at this
      · rename_i q e; rw [e]; simp at this; rw [this]
      · cases this
    · exact outsIn_look hn.2 r h

theorem names_snd (F : Fl) (N : NM) {r : Ref} {q : Option Ref} {B : Block} (h : (r, q, B) ∈ F.names N) : q = (look N r).getD none := by
  unfold Fl.names at h
  rcases List.mem_append.1 h with h | h <;> (obtain ⟨x, _, e⟩ := List.mem_map.1 h; cases e; rfl)

theorem findN_append (a b : NameTab) (r : Ref) : findN (a ++ b) r = match findN a r with | some q => some q | none => findN b r := by
  induction a with
  | nil => rfl
  | cons q a ih =>
    obtain ⟨r0, q⟩ := q
    simp only [List.cons_append, findN]
    split
    · rfl
    · exact ih
theorem findN_vars (N : NM) : ∀ (l : List (Ref × List TV)) (r : Ref), findN (l.map fun q => (q.1, (look N q.1).getD none, Block.vars (TV.dens q.2))) r = (findD l r).map fun cs => ((look N r).getD none, Block.vars (TV.dens cs))
  | [], r => rfl
  | (r0, cs) :: l, r => by
    simp only [List.map_cons, findN, findD]
    split
    · subst_vars; rfl
    · exact findN_vars N l r
theorem findN_arrs (N : NM) : ∀ (l : List (Ref × RowsD)) (r : Ref), findN (l.map fun q => (q.1, (look N q.1).getD none, Block.arr q.2.1.sz (q.2.2.map (encC q.2.1)))) r = (findD l r).map fun d => ((look N r).getD none, Block.arr d.1.sz (d.2.map (encC d.1)))
  | [], r => rfl
  | (r0, d) :: l, r => by
    simp only [List.map_cons, findN, findD]
    split
    · subst_vars; rfl
    · exact findN_arrs N l r

theorem names_blk (F : Fl) (N : NM) : mkB (F.names N) = denB F.blk := by
  funext r
  unfold mkB Fl.names denB Fl.blk
  rw [findN_append, findN_vars, findN_arrs]
  cases findD F.vars r with
  | some cs => rfl
  | none => cases findD F.arrs r <;> rfl
theorem mkE_map : ∀ (l : List (Nat × TV)), mkE (l.map fun q => (q.1, q.2.den)) = denE (mkET l)
  | [] => rfl
  | (k, v) :: l => by
    funext t
    simp only [List.map_cons, mkE, denE, mkET]
    split
    · rfl
    · exact congrFun (mkE_map l) t
theorem Fl.st_den (F : Fl) (N : NM) : F.st.den = ⟨mkE F.envA, mkB (F.names N)⟩ := by
  unfold Fl.st TSt.den Fl.envA
  rw [names_blk, mkE_map]

section
variable {A : Ref → Bool} {blk : TBlk} {L : Ref → Nat} {NT : NameTab}

theorem matchEnv_ok {env : Nat → TV} (he : ∀ t, okV (lenOk blk) (env t)) : ∀ (l : List (Nat × TV)) (N : NM) (ds : List Dyn) (N' : NM), matchEnv A env l N = some (ds, N') →
    (∀ x q, look N x = some q → look N' x = some q) ∧ (NOk A blk N' L NT → ∀ rest, ∃ l', fillEnv L l (ds ++ rest) = some (l', rest) ∧ EnvLe NT (denE env) (l'.map fun q => (q.1, q.2.den)) ∧ ∀ q ∈ l', okV (fun r n => n = L r) q.2)
  | [], N, ds, N', h => by cases h; exact ⟨fun _ _ k => k, fun _ rest => ⟨[], rfl, by simp [EnvLe], by simp⟩⟩
  | (k, t) :: l, N, ds, N', h => by
    simp only [matchEnv] at h
    split at h
    · rename_i d1 N1 h1
      split at h
      · rename_i d2 N2 h2
        cases h
        have m1 := matchV_ok (L := L) (NT := NT) t (env k) N d1 N1 h1 (he k)
        have m2 := matchEnv_ok he l N1 d2 N' h2
        refine ⟨fun x q k => m2.1 x q (m1.1 x q k), fun hok rest => ?_⟩
        obtain ⟨v, k1, k2, k3⟩ := m1.2 (hok.mono m2.1) (d2 ++ rest)
        obtain ⟨l', k4, k5, k6⟩ := m2.2 hok rest
        refine ⟨(k, v) :: l', by simp only [fillEnv, List.append_assoc, k1, k4], ?_, ?_⟩
        · simp only [List.map_cons, EnvLe]; exact ⟨k2, k5⟩
        · intro q hq; rcases List.mem_cons.1 hq with rfl | hq
          · exact k3
          · exact k6 q hq
      · cases h
    · cases h

theorem matchVars_ok (hb : blkOk blk) : ∀ (l : List (Ref × List TV)) (N : NM) (ds : List Dyn) (N' : NM), matchVars A blk l N = some (ds, N') →
    (∀ x q, look N x = some q → look N' x = some q) ∧ (∀ r ts, (r, ts) ∈ l → ∃ r' cs, look N' r = some (some r') ∧ blk r' = some (.vars cs)) ∧
    (NOk A blk N' L NT → ∀ rest, ∃ l', fillVars L l (ds ++ rest) = some (l', rest) ∧ (∀ r vs, (r, vs) ∈ l' → ∃ r' cs, look N' r = some (some r') ∧ blk r' = some (.vars cs) ∧ AVles NT (TV.dens vs) (TV.dens cs)) ∧
      (∀ q ∈ l', okVs (fun r n => n = L r) q.2) ∧ l'.map (·.1) = l.map (·.1))
  | [], N, ds, N', h => by cases h; exact ⟨fun _ _ k => k, by simp, fun _ rest => ⟨[], rfl, by simp, by simp, rfl⟩⟩
  | (r, ts) :: l, N, ds, N', h => by
    simp only [matchVars] at h
    split at h
    case h_2 => cases h
    rename_i r' hr
    split at h
    case h_2 => cases h
    rename_i cs hc
    split at h
    · rename_i d1 N1 h1
      split at h
      · rename_i d2 N2 h2
        cases h
        have m1 := matchVs_ok (L := L) (NT := NT) ts cs N d1 N1 h1 (hb r' cs hc)
        have m2 := matchVars_ok hb l N1 d2 N' h2
        have hr' : look N' r = some (some r') := m2.1 r _ (m1.1 r _ hr)
        refine ⟨fun x q k => m2.1 x q (m1.1 x q k), ?_, fun hok rest => ?_⟩
        · intro x xs hx
          rcases List.mem_cons.1 hx with e | hx
          · cases e; exact ⟨r', cs, hr', hc⟩
          · exact m2.2.1 x xs hx
        obtain ⟨v, k1, k2, k3⟩ := m1.2 (hok.mono m2.1) (d2 ++ rest)
        obtain ⟨l', k4, k5, k6, k7⟩ := m2.2.2 hok rest
        refine ⟨(r, v) :: l', by simp only [fillVars, List.append_assoc, k1, k4], ?_, ?_, by simp only [List.map_cons, k7]⟩
        · intro x vs hx
          rcases List.mem_cons.1 hx with e | hx
          · cases e; exact ⟨r', cs, hr', hc, k2⟩
          · exact k5 x vs hx
        · intro q hq; rcases List.mem_cons.1 hq with rfl | hq
          · exact k3
          · exact k6 q hq
      · cases h
    · cases h

theorem matchArrs_ok {N : NM} : ∀ (l : List (Ref × Ty)) (ds : List Dyn), matchArrs blk N l = some ds → ∀ rest, ∃ l', fillArrs l (ds ++ rest) = some (l', rest) ∧ l'.map (·.1) = l.map (·.1) ∧
    ∀ r τ rows, (r, (⟨τ, rows⟩ : RowsD)) ∈ l' → (∃ r', look N r = some (some r') ∧ blk r' = some (.arr τ rows)) ∨ (look N r = some none ∧ rows = [])
  | [], ds, h, rest => by cases h; exact ⟨[], rfl, rfl, by simp⟩
  | (r, τ) :: l, ds, h, rest => by
    simp only [matchArrs] at h
    split at h
    case h_2 => cases h
    rename_i d2 h2
    obtain ⟨l', k1, k2, k3⟩ := matchArrs_ok l d2 h2 rest
    split at h
    · rename_i r' hr
      split at h
      · rename_i τ' rows hb
        split at h
        · rename_i rows2 hc
          cases h
          obtain ⟨e, hc⟩ := Ty.cast_some hc
          cases e; cases hc
          refine ⟨(r, ⟨τ, rows⟩) :: l', by simp only [List.cons_append, fillArrs, Ty.cast_self, k1], by simp only [List.map_cons, k2], ?_⟩
          intro x τ2 rs hx
          rcases List.mem_cons.1 hx with e | hx
          · cases e; exact .inl ⟨r', hr, hb⟩
          · exact k3 x τ2 rs hx
        · cases h
      · cases h
    · rename_i hr
      cases h
      refine ⟨(r, ⟨τ, []⟩) :: l', by simp only [List.cons_append, fillArrs, Ty.cast_self, k1], by simp only [List.map_cons, k2], ?_⟩
      intro x τ2 rs hx
      rcases List.mem_cons.1 hx with e | hx
      · cases e; exact .inr ⟨hr, rfl⟩
      · exact k3 x τ2 rs hx
    · cases h
end

theorem findD_mem {α : Type} : ∀ {l : List (Ref × α)} {r : Ref} {a : α}, findD l r = some a → (r, a) ∈ l
  | [], _, _, h => by simp [findD] at h
  | (r0, a0) :: l, r, a, h => by
    simp only [findD] at h
    split at h
    · cases h; subst_vars; simp
    · simp [findD_mem h]
theorem findD_none {α : Type} : ∀ {l : List (Ref × α)} {r : Ref}, findD l r = none → ∀ a, (r, a) ∉ l
  | [], _, _, _, h => by cases h
  | (r0, a0) :: l, r, h, a, hm => by
    simp only [findD] at h
    split at h
    · cases h
    · rename_i hne
      rcases List.mem_cons.1 hm with e | hm
      · cases e; exact hne rfl
      · exact findD_none h a hm

mutual
theorem okV_of_okB {F : Fl} {N : NM} : ∀ v : TV, v.den.okB (F.names N) = true → (∀ r τ rows, F.blk r = some (.arr τ rows) → lenIn F.arrs r = rows.length) → okV (fun r n => n = lenIn F.arrs r) v → okV (lenOk F.blk) v
  | .und, _, _, _ => by simp only [okV]
  | .raw _, _, _, _ => by simp only [okV]
  | .nil, _, _, _ => by simp only [okV]
  | .dat _ _, _, _, _ => by simp only [okV]
  | .sdat _ _, _, _, _ => by simp only [okV]
  | .tupd _, _, _, _ => by simp only [okV]
  | .agg cs, h, hl, k => by simp only [TV.den, AV.okB] at h; simp only [okV] at k ⊢; exact okVs_of_okB cs h hl k
  | .tup cs, h, hl, k => by simp only [TV.den, AV.okB] at h; simp only [okV] at k ⊢; exact okVs_of_okB cs h hl k
  | .ptr _ _, _, _, _ => by simp only [okV]
  | .eptr _ _ _, _, _, _ => by simp only [okV]
  | .epd _ _ _, _, _, _ => by simp only [okV]
  | .slw r _ n, h, hl, k => by
    simp only [TV.den, AV.okB] at h
    simp only [okV] at k ⊢
    have hd : (mkB (F.names N) r).isSome = true := by simp only [mkB]; cases hf : findN (F.names N) r <;> simp_all
    rw [names_blk] at hd
    have hs : (F.blk r).isSome = true := by unfold denB at hd; simpa using hd
    refine ⟨hs, fun τ rows hr => ?_⟩
    rcases hr with hr | hr
    · rw [k, hl r τ rows hr]
    · unfold Fl.blk at hr
      split at hr
      · cases hr
      · split at hr <;> cases hr
  | .sl _ _ _ _, _, _, _ => by simp only [okV]
  | .clo _ a b, h, hl, k => by
    simp only [TV.den, AV.okB, Bool.and_eq_true] at h
    simp only [okV] at k ⊢
    exact ⟨okVs_of_okB a h.1 hl k.1, okVs_of_okB b h.2 hl k.2⟩
  | .iface _ v, h, hl, k => by simp only [TV.den, AV.okB] at h; simp only [okV] at k ⊢; exact okV_of_okB v h hl k
theorem okVs_of_okB {F : Fl} {N : NM} : ∀ vs : List TV, AV.oksB (F.names N) (TV.dens vs) = true → (∀ r τ rows, F.blk r = some (.arr τ rows) → lenIn F.arrs r = rows.length) → okVs (fun r n => n = lenIn F.arrs r) vs → okVs (lenOk F.blk) vs
  | [], _, _, _ => by simp only [okVs]
  | v :: vs, h, hl, k => by
    simp only [TV.dens, AV.oksB, Bool.and_eq_true] at h
    simp only [okVs] at k ⊢
    exact ⟨okV_of_okB v h.1 hl k.1, okVs_of_okB vs h.2 hl k.2⟩
end

/-- A state that has the shape says at least what its data say in the shape. -/
theorem matchSt_ok {C : Ctx} {outs : List Ref} {T : Tm} {s : TSt} {x : els T.holes} (h : matchSt outs T s = some x) (hs : s.Ok) (ho : ∀ r, C.D0 r → r ∈ outs) : ∃ s', fillSt T x = some s' ∧ s'.Ok ∧ Weak C s.den s'.den := by
  unfold matchSt at h
  split at h
  case h_2 => cases h
  rename_i d1 N1 h1
  split at h
  case h_2 => cases h
  rename_i d2 N h2
  split at h
  case h_2 => cases h
  rename_i d0 h0
  split at h
  case h_2 => cases h
  rename_i y hy
  split at h
  case h_2 => cases h
  rename_i F hF
  split at h
  case h_2 => cases h
  rename_i hck
  cases h
  simp only [Bool.and_eq_true] at hck
  obtain ⟨⟨hok, hin⟩, hout⟩ := hck
  refine ⟨F.st, ?_, ?_⟩
  · unfold fillSt; rw [unpack_pack _ _ _ hy, hF]; rfl
  -- what was filled in
  obtain ⟨arrs, a1, a2, a3⟩ := matchArrs_ok (blk := s.blk) (N := N) T.arrs d0 h0 (d1 ++ d2)
  have mv := matchVars_ok (A := fun r => isArrB (s.blk r)) (L := lenIn arrs) (NT := F.names N) hs.blk T.vars N1 d2 N h2
  have me := matchEnv_ok (A := fun r => isArrB (s.blk r)) (blk := s.blk) (L := lenIn arrs) (NT := F.names N) hs.env T.env (outN outs) d1 N1 h1
  have parts : F.arrs = arrs ∧ ∃ d, fillEnv (lenIn arrs) T.env (d1 ++ d2) = some (F.env, d) ∧ ∃ d', fillVars (lenIn arrs) T.vars d = some (F.vars, d') := by
    unfold Tm.fill at hF
    rw [a1] at hF
    simp only at hF
    split at hF
    · rename_i env d he
      split at hF
      · rename_i vars d' hv
        cases hF
        exact ⟨rfl, d, he, d', hv⟩
      · cases hF
    · cases hF
  obtain ⟨rfl, d, pe, d', pv⟩ := parts
  have look_names : ∀ r o, look N r = some o → ∃ B, findN (F.names N) r = some (o, B) := by
    intro r o hr
    have hsm := namesIn_find hin (look_mem hr)
    obtain ⟨⟨q, B⟩, hf⟩ := Option.isSome_iff_exists.1 hsm
    have := names_snd F N (findN_mem hf)
    rw [hr] at this
    simp at this
    subst this
    exact ⟨B, hf⟩
  have inarr : ∀ r o, look N r = some o → (∀ ts, (r, ts) ∉ T.vars) → ∃ dd, findD F.arrs r = some dd := by
    intro r o hr hnv
    obtain ⟨B, hf⟩ := look_names r o hr
    unfold Fl.names at hf
    rw [findN_append, findN_vars, findN_arrs] at hf
    cases hv : findD F.vars r with
    | some cs =>
      exfalso
      have hm := findD_mem hv
      have hkeys : F.vars.map (·.1) = T.vars.map (·.1) := by
        have : ∀ (L : Ref → Nat) (l : List (Ref × List TV)) (ds : List Dyn) (l' : List (Ref × List TV)) (d' : List Dyn), fillVars L l ds = some (l', d') → l'.map (·.1) = l.map (·.1) := by
          intro L l
          induction l with
          | nil => intro ds l' d' e; cases e; rfl
          | cons q l ih =>
            obtain ⟨r0, ts⟩ := q
            intro ds l' d' e
            simp only [fillVars] at e
            split at e
            · split at e
              · rename_i k; cases e; simp only [List.map_cons, ih _ _ _ k]
              · cases e
            · cases e
        exact this _ _ _ _ _ pv
      have : r ∈ T.vars.map (·.1) := by rw [← hkeys]; exact List.mem_map.2 ⟨_, hm, rfl⟩
      obtain ⟨⟨r1, ts⟩, hm1, e⟩ := List.mem_map.1 this
      simp only at e; subst e
      exact hnv ts hm1
    | none =>
      rw [hv] at hf
      cases ha : findD F.arrs r with
      | some dd => exact ⟨dd, rfl⟩
      | none => rw [ha] at hf; cases hf
  have nok : NOk (fun r => isArrB (s.blk r)) s.blk N (lenIn F.arrs) (F.names N) := by
    refine ⟨fun r o hr => ?_, fun r r' n hr hA hl => ?_, fun r hr => ?_⟩
    · obtain ⟨B, hf⟩ := look_names r o hr; rw [hf]; rfl
    · have hnv : ∀ ts, (r, ts) ∉ T.vars := by
        intro ts hm
        obtain ⟨r2, cs, e1, e2⟩ := mv.2.1 r ts hm
        rw [hr] at e1; cases e1
        rw [e2] at hA; cases hA
      obtain ⟨⟨τ, rows⟩, hd⟩ := inarr r _ hr hnv
      unfold lenIn
      rw [hd]
      rcases a3 r τ rows (findD_mem hd) with ⟨r2, e1, e2⟩ | ⟨e1, _⟩
      · rw [hr] at e1; cases e1
        exact (hl.2 τ rows (.inl e2)).symm
      · rw [hr] at e1; cases e1
    · have hnv : ∀ ts, (r, ts) ∉ T.vars := by
        intro ts hm
        obtain ⟨r2, cs, e1, e2⟩ := mv.2.1 r ts hm
        rw [hr] at e1; cases e1
      obtain ⟨⟨τ, rows⟩, hd⟩ := inarr r _ hr hnv
      unfold lenIn
      rw [hd]
      rcases a3 r τ rows (findD_mem hd) with ⟨r2, e1, e2⟩ | ⟨_, e2⟩
      · rw [hr] at e1; cases e1
      · rw [e2]; rfl
  obtain ⟨env', e1, e2, e3⟩ := me.2 (nok.mono mv.1) d2
  rw [pe] at e1
  cases e1
  obtain ⟨vars', v1, v2, v3, v4⟩ := mv.2.2 nok []
  rw [List.append_nil, pv] at v1
  cases v1
  have hnames := hok
  simp only [namesOk, Bool.and_eq_true] at hnames
  obtain ⟨⟨⟨hd1, hd2⟩, hva⟩, hea⟩ := hnames
  have hlen : ∀ r τ rows, F.blk r = some (.arr τ rows) → lenIn F.arrs r = rows.length := by
    intro r τ rows hr
    unfold Fl.blk at hr
    split at hr
    · cases hr
    · split at hr
      · rename_i hd; cases hr; unfold lenIn; rw [hd]
      · cases hr
  refine ⟨⟨?_, ?_⟩, ?_⟩
  · have : ∀ (l : List (Nat × TV)), (∀ q ∈ l, okV (lenOk F.blk) q.2) → ∀ t, okV (lenOk F.blk) (mkET l t) := by
      intro l
      induction l with
      | nil => intro _ t; simp only [mkET, okV]
      | cons q l ih =>
        obtain ⟨k, v⟩ := q
        intro hq t
        simp only [mkET]
        split
        · exact hq (k, v) (by simp)
        · exact ih (fun q hq' => hq q (by simp [hq'])) t
    refine this F.env fun q hq => okV_of_okB (N := N) q.2 ?_ hlen (e3 q hq)
    exact List.all_eq_true.1 hea (q.1, q.2.den) (List.mem_map.2 ⟨q, hq, rfl⟩)
  · intro r cs hr
    unfold Fl.st Fl.blk at hr
    simp only at hr
    split at hr
    · rename_i cs' hd
      cases hr
      have hm := findD_mem hd
      have hm2 : (r, (look N r).getD none, Block.vars (TV.dens cs)) ∈ F.names N := by
        unfold Fl.names
        exact List.mem_append.2 (.inl (List.mem_map.2 ⟨(r, cs), hm, rfl⟩))
      have := List.all_eq_true.1 hva _ hm2
      exact okVs_of_okB (N := N) cs this hlen (v3 _ hm)
    · split at hr <;> cases hr
  · rw [Fl.st_den F N]
    refine weak_names_tied (F.names N) F.envA e2 ?_ hok ?_
    · have : ∀ M : NameTab, (∀ q ∈ M, q ∈ F.names N) → BlksLe (F.names N) s.den.blk M := by
        intro M
        induction M with
        | nil => intro _; simp only [BlksLe]
        | cons q M ih =>
          obtain ⟨r, o, B⟩ := q
          intro hq
          simp only [BlksLe]
          refine ⟨?_, ih fun q hq' => hq q (by simp [hq'])⟩
          have hm := hq (r, o, B) (by simp)
          unfold Fl.names at hm
          rcases List.mem_append.1 hm with hm | hm
          · obtain ⟨⟨r0, vs⟩, hv, e⟩ := List.mem_map.1 hm
            cases e
            obtain ⟨r', cs, k1, k2, k3⟩ := v2 r0 vs hv
            rw [k1]
            simp only [Option.getD_some, BlkLe]
            exact ⟨TV.dens cs, by simp only [TSt.den, denB, k2, Option.map_some, TB.den], k3⟩
          · obtain ⟨⟨r0, τ, rows⟩, hv, e⟩ := List.mem_map.1 hm
            cases e
            rcases a3 r0 τ rows hv with ⟨r', k1, k2⟩ | ⟨k1, k2⟩
            · rw [k1]
              simp only [Option.getD_some, BlkLe]
              exact ⟨_, by simp only [TSt.den, denB, k2, Option.map_some, TB.den], rfl⟩
            · rw [k1]
              simp only [Option.getD_some, BlkLe, k2, List.map_nil]
      exact this _ fun _ k => k
    · intro r hr
      exact look_names r (some r) (outsIn_look hout r (ho r hr))

end Go.Abs

/- Code as a function of its open data. -/
namespace Go.Abs
open Go.RowKit

/-! ### Loops -/
section
variable {S R : Type}

def iterO (f : S → Option (S ⊕ R)) : Nat → S → Option R
  | 0, _ => none
  | n + 1, s => match f s with
    | none => none
    | some (.inl s') => iterO f n s'
    | some (.inr r) => some r

open Classical in
/-- A round after the other, as long as there is no result. -/
noncomputable def loopO (f : S → Option (S ⊕ R)) (s : S) : Option R :=
  if h : ∃ r, ∃ n, iterO f n s = some r then some (Classical.choose h) else none

theorem iterO_mono {f : S → Option (S ⊕ R)} : ∀ (n : Nat) (s : S) (r : R), iterO f n s = some r → ∀ m, n ≤ m → iterO f m s = some r
  | 0, _, _, h, _, _ => by cases h
  | n + 1, s, r, h, 0, hm => by omega
  | n + 1, s, r, h, m + 1, hm => by
    simp only [iterO] at h ⊢
    split at h
    · cases h
    · exact iterO_mono n _ r h m (by omega)
    · exact h
theorem loopO_iff {f : S → Option (S ⊕ R)} {s : S} {r : R} : loopO f s = some r ↔ ∃ n, iterO f n s = some r := by
  unfold loopO
  constructor
  · intro h
    split at h
    · rename_i hx
      cases h
      exact Classical.choose_spec hx
    · cases h
  · rintro ⟨n, h⟩
    have hx : ∃ r, ∃ n, iterO f n s = some r := ⟨r, n, h⟩
    rw [dif_pos hx]
    obtain ⟨m, hm⟩ := Classical.choose_spec hx
    have h1 := iterO_mono n s r h (max n m) (Nat.le_max_left _ _)
    have h2 := iterO_mono m s _ hm (max n m) (Nat.le_max_right _ _)
    rw [h1] at h2
    exact h2.symm
theorem loopO_eq (f : S → Option (S ⊕ R)) (s : S) : loopO f s = match f s with
    | none => none
    | some (.inl s') => loopO f s'
    | some (.inr r) => some r := by
  apply Option.ext
  intro r
  rw [loopO_iff]
  cases hf : f s with
  | none =>
    refine ⟨fun ⟨n, hn⟩ => ?_, fun h => by cases h⟩
    cases n with
    | zero => cases hn
    | succ n => simp [iterO, hf] at hn
  | some q =>
    cases q with
    | inl s' =>
      simp only
      rw [loopO_iff]
      refine ⟨fun ⟨n, hn⟩ => ?_, fun ⟨n, hn⟩ => ⟨n + 1, by simp [iterO, hf, hn]⟩⟩
      cases n with
      | zero => cases hn
      | succ n => simp only [iterO, hf] at hn; exact ⟨n, hn⟩
    | inr r' =>
      simp only
      refine ⟨fun ⟨n, hn⟩ => ?_, fun h => ⟨1, by simpa [iterO, hf] using h⟩⟩
      cases n with
      | zero => cases hn
      | succ n => simpa [iterO, hf] using hn
end

inductive TOut where
  | normal (s : TSt)
  | exit (id : Nat) (s : TSt)
  | ret (s : TSt)
def TOut.den : TOut → Out
  | .normal s => .normal s.den
  | .exit i s => .exit i s.den
  | .ret s => .ret s.den
def TOut.Ok : TOut → Prop
  | .normal s => s.Ok
  | .exit _ s => s.Ok
  | .ret s => s.Ok

/-! ### What is used further on: sets of slots, as bits -/
def bit (t : Nat) : Nat := Nat.shiftLeft 1 t
def tmpOf : Operand → Nat
  | .tmp t => bit t
  | _ => 0
def tmpsOf : List Operand → Nat
  | [] => 0
  | o :: l => Nat.lor (tmpOf o) (tmpsOf l)
def tmpO : Option Operand → Nat
  | some o => tmpOf o
  | none => 0
def opUses : Op → Nat
  | .move x | .assign x => tmpOf x
  | .pick a b c => Nat.lor (tmpOf a) (Nat.lor (tmpOf b) (tmpOf c))
  | .box _ x => tmpOf x
  | .build _ parts => tmpsOf (parts.toList.map (·.2))
  | .buildSlice _ _ parts => tmpsOf (parts.toList.map (·.2))
  | .load _ x => tmpOf x
  | .store _ x v => Nat.lor (tmpOf x) (tmpOf v)
  | .nilCheck x => tmpOf x
  | .binOp _ _ x y _ => Nat.lor (tmpOf x) (tmpOf y)
  | .unOp _ _ x => tmpOf x
  | .convert _ _ x => tmpOf x
  | .makeInterface _ x => tmpOf x
  | .makeFunc _ a b => Nat.lor (tmpsOf a.toList) (tmpsOf b.toList)
  | .makeSlice _ a b => Nat.lor (tmpOf a) (tmpOf b)
  | .slice _ x lo hi mx => Nat.lor (tmpOf x) (Nat.lor (tmpO lo) (Nat.lor (tmpO hi) (tmpO mx)))
  | .fieldAddr _ x _ => tmpOf x
  | .field _ x _ => tmpOf x
  | .indexAddr _ x i => Nat.lor (tmpOf x) (tmpOf i)
  | .index _ x i => Nat.lor (tmpOf x) (tmpOf i)
  | .extract t _ => tmpOf t
  | .call { callee := .value f, args, .. } => Nat.lor (tmpOf f) (tmpsOf args.toList)
  | .call { args, .. } => tmpsOf args.toList
  | _ => 0
/-- Without the slot that is written; what is written under a guard stays. -/
def opKill (o : Oper) (live : Nat) : Nat := match o.guard, o.dst with
  | none, some d => Nat.xor (Nat.lor live (bit d)) (bit d)
  | _, _ => live
def opsLive : List Oper → Nat → Nat
  | [], live => live
  | o :: l, live => Nat.lor (opUses o.op) (opKill o (opsLive l live))
def findL : List (Nat × Nat) → Nat → Nat
  | [], _ => 0
  | (k, v) :: l, x => match Nat.beq x k with
    | true => v
    | false => findL l x
/-- What is live before code, where rl is at its return, ex at its exits, live behind it. -/
def liveIn (rl : Nat) : Code → List (Nat × Nat) → Nat → Nat
  | .region _ ops _, _, live => opsLive ops.toList live
  | .seq a b, ex, live => liveIn rl a ex (liveIn rl b ex live)
  | .cond c x y, ex, live => Nat.lor (tmpOf c) (Nat.lor (liveIn rl x ex live) (liveIn rl y ex live))
  | .block id c, ex, live => liveIn rl c ((id, live) :: ex) live
  | .loop c, ex, _ => liveIn rl c ex (liveIn rl c ex 0)
  | .exit id, ex, _ => findL ex id
  | .ret, _, _ => rl
  | _, _, live => live

/-! ### The shape of a state -/
mutual
def tmV (blk : TBlk) : TV → TV
  | .tupd _ | .eptr _ _ _ | .sl _ _ _ _ => .und
  | .raw v => match v with
    | .pointer none => .raw (.pointer none)
    | _ => .und
  | .slw r sz n => match isArrB (blk r) with
    | true => .slw r sz n
    | false => .und
  | .ptr r o => match blk r with
    | some (.vars _) => .ptr r o
    | _ => .und
  | .agg cs => .agg (tmVs blk cs)
  | .tup cs => .tup (tmVs blk cs)
  | .clo f a b => .clo f (tmVs blk a) (tmVs blk b)
  | .iface t v => .iface t (tmV blk v)
  | v => v
def tmVs (blk : TBlk) : List TV → List TV
  | [] => []
  | v :: vs => tmV blk v :: tmVs blk vs
end
mutual
def namesT : TV → List Ref
  | .slw r _ _ => [r]
  | .ptr r _ => [r]
  | .agg cs => namesTs cs
  | .tup cs => namesTs cs
  | .clo _ a b => namesTs a ++ namesTs b
  | .iface _ v => namesT v
  | _ => []
def namesTs : List TV → List Ref
  | [] => []
  | v :: vs => namesT v ++ namesTs vs
end
def isUnd : TV → Bool
  | .und => true
  | _ => false
def envOf (live : Nat) (s : TSt) : Nat → List (Nat × TV)
  | 0 => []
  | t + 1 => match Nat.testBit live t with
    | true => match isUnd (tmV s.blk (s.env t)) with
      | true => envOf live s t
      | false => (t, tmV s.blk (s.env t)) :: envOf live s t
    | false => envOf live s t
def memR (r : Ref) : List Ref → Bool
  | [] => false
  | x :: l => decide (r = x) || memR r l
def reachT (blk : TBlk) : Nat → List Ref → List Ref → List Ref
  | 0, _, seen => seen
  | _ + 1, [], seen => seen
  | k + 1, r :: todo, seen => match memR r seen with
    | true => reachT blk k todo seen
    | false => match blk r with
      | some (.vars cs) => reachT blk k (todo ++ namesTs (tmVs blk cs)) (seen ++ [r])
      | some (.arr _ _) => reachT blk k todo (seen ++ [r])
      | _ => reachT blk k todo seen
def envNamesT : List (Nat × TV) → List Ref
  | [] => []
  | (_, v) :: l => namesT v ++ envNamesT l
def arrsOf (blk : TBlk) : List Ref → List (Ref × Ty)
  | [] => []
  | r :: l => match blk r with
    | some (.arr τ _) => (r, τ) :: arrsOf blk l
    | _ => arrsOf blk l
def varsOf (blk : TBlk) : List Ref → List (Ref × List TV)
  | [] => []
  | r :: l => match blk r with
    | some (.vars cs) => (r, tmVs blk cs) :: varsOf blk l
    | _ => varsOf blk l
def tmOf (n : Nat) (live : Nat) (outs : List Ref) (s : TSt) : Tm :=
  let env := envOf live s n
  let rs := reachT s.blk 64 (outs ++ envNamesT env) []
  ⟨arrsOf s.blk rs, env, varsOf s.blk rs⟩

/-- What the shape has besides the state's own. -/
inductive Prep where
  | grow (t j : Nat) (τ : Ty)
  | growC (t i j : Nat) (τ : Ty)
  | drop (t : Nat)
  | dat (t : Nat) (τ : Ty)
  | sdat (t : Nat) (τ : Ty)
def prep1 (n : Nat) (s : TSt) : Prep → TSt
  | .grow t j τ => ⟨upd s.env t (.slw (.loc (n + 1 + j) 0) τ.sz 0), upd s.blk (.loc (n + 1 + j) 0) (some (.arr τ []))⟩
  | .growC t i j τ => match s.env t with
    | .ptr r _ => match s.blk r with
      | some (.vars cs) => ⟨s.env, upd (upd s.blk r (some (.vars (cs.set i (.slw (.loc (n + 1 + j) 0) τ.sz 0))))) (.loc (n + 1 + j) 0) (some (.arr τ []))⟩
      | _ => s
    | _ => s
  | .drop t => ⟨upd s.env t .und, s.blk⟩
  | .dat t τ => ⟨upd s.env t (.dat τ τ.dflt), s.blk⟩
  | .sdat t τ => ⟨upd s.env t (.sdat τ τ.dflt), s.blk⟩
def preps (n : Nat) (s : TSt) : List Prep → TSt
  | [] => s
  | p :: l => preps n (prep1 n s p) l

abbrev HintTab := List (Nat × List Prep)
def findH : HintTab → Nat → Option (List Prep)
  | [], _ => none
  | (k, p) :: l, x => match Nat.beq x k with
    | true => some p
    | false => findH l x
structure Hints where
  loops : HintTab := []
  conds : HintTab := []
  blks : HintTab := []
  regs : HintTab := []

def firstR : Code → Nat
  | .region id _ _ => id
  | .seq a _ => firstR a
  | .block _ c => firstR c
  | .loop c => firstR c
  | _ => 0
def condKey : Operand → Nat
  | .tmp t => t
  | _ => 0
def TSt.knowO (st : TSt) : Operand → Bool → TSt
  | .tmp t, b => match st.env t with
    | .dat .bool _ => st.know t b
    | _ => st
  | _, _ => st
theorem TSt.knowO_den {st : TSt} {c : Operand} {b : Bool} (h : asBoolT (opndT st.env c) = some b) : (st.knowO c b).den = st.den := by
  cases c with
  | tmp t =>
    simp only [TSt.knowO]
    split
    · rename_i b' e
      refine TSt.know_den ?_
      simp only [opndT, e, nrmT, asBoolT] at h
      rw [e]; exact h
    · rfl
  | _ => rfl
theorem TSt.knowO_ok {st : TSt} {c : Operand} {b : Bool} (h : st.Ok) : (st.knowO c b).Ok := by
  cases c with
  | tmp t =>
    simp only [TSt.knowO]
    split
    · exact TSt.know_ok h
    · exact h
  | _ => exact h
/-- Functions that are data's alone, and others. -/
def skel (TΓ : TGam) : Gam := fun f => match TΓ f with
  | some (.p _) => some (.p fun _ => none)
  | some (.g _) => some (.g fun _ _ _ => none)
  | none => none

section
variable (P : Program) (TΓ : TGam) (n : Nat) (outs : List Ref) (H : Hints) (rl : Nat)

/-- What comes after a choice is told once. -/
def joinT {S R : Type} (r : Option (S ⊕ R)) (k : S → Option R) : Option R := r.bind fun
  | .inl s => k s
  | .inr x => some x

noncomputable def comp : Code → (R : Type) → List (Nat × Nat) → Nat → TSt → (TOut → Option R) → Option R
  | .skip, _, _, _, st, K => K (.normal st)
  | .label _, _, _, _, st, K => K (.normal st)
  | .region id ops draw, _, _, live, st, K => match findH H.regs id with
    | none => evalOpsT P TΓ n (dsOf ops) ops.toList st fun s => match !draw || dynOk s.den.env (dynT P (skel TΓ) ops) with
      | true => K (.normal s)
      | false => none
    | some ps =>
      let T := tmOf n live outs (preps n st ps)
      (evalOpsT P TΓ n (dsOf ops) ops.toList st fun s => match !draw || dynOk s.den.env (dynT P (skel TΓ) ops) with
        | true => matchSt outs T s
        | false => none).bind fun z => (fillSt T z).bind fun s => K (.normal s)
  | .seq a b, R, ex, live, st, K => comp a R ex (liveIn rl b ex live) st fun
    | .normal s => comp b R ex live s K
    | .exit i s => K (.exit i s)
    | .ret s => K (.ret s)
  | .cond c x y, R, ex, live, st, K => (asBoolT (opndT st.env c)).bind fun t => match findH H.conds (condKey c) with
    | none => cond t (comp x R ex live (st.knowO c true) K) (comp y R ex live (st.knowO c false) K)
    | some ps =>
      let T := tmOf n live outs (preps n st ps)
      let K' : TOut → Option (els T.holes ⊕ R) := fun
        | .normal s => (matchSt outs T s).map .inl
        | .exit i s => (K (.exit i s)).map .inr
        | .ret s => (K (.ret s)).map .inr
      joinT (cond t (comp x (els T.holes ⊕ R) ex live (st.knowO c true) K') (comp y (els T.holes ⊕ R) ex live (st.knowO c false) K')) fun z => (fillSt T z).bind fun s => K (.normal s)
  | .block id c, R, ex, live, st, K => match findH H.blks id with
    | none => comp c R ((id, live) :: ex) live st fun
      | .normal s => K (.normal s)
      | .exit i s => match Nat.beq i id with
        | true => K (.normal s)
        | false => K (.exit i s)
      | .ret s => K (.ret s)
    | some ps =>
      let T := tmOf n live outs (preps n st ps)
      joinT (comp c (els T.holes ⊕ R) ((id, live) :: ex) live st fun
        | .normal s => (matchSt outs T s).map .inl
        | .exit i s => match Nat.beq i id with
          | true => (matchSt outs T s).map .inl
          | false => (K (.exit i s)).map .inr
        | .ret s => (K (.ret s)).map .inr) fun z => (fillSt T z).bind fun s => K (.normal s)
  | .loop c, R, ex, live, st, K =>
    let T := tmOf n (liveIn rl (.loop c) ex live) outs (match findH H.loops (firstR c) with | some ps => preps n st ps | none => st)
    (matchSt outs T st).bind fun x => loopO (fun x : els T.holes => (fillSt T x).bind fun s => comp c (els T.holes ⊕ R) ex (liveIn rl (.loop c) ex live) s fun
      | .normal s => (matchSt outs T s).map .inl
      | .exit i s => (K (.exit i s)).map .inr
      | .ret s => (K (.ret s)).map .inr) x
  | .exit id, _, _, _, st, K => K (.exit id st)
  | .ret, _, _, _, st, K => K (.ret st)
  | _, _, _, _, _, _ => none
end

/-- How code ends, by its function. -/
def PostT {R : Type} (K : TOut → Option R) (x : R) : Out → Prop := fun o => ∃ o' : TOut, o = o'.den ∧ o'.Ok ∧ K o' = some x

section
variable {C : Ctx} {Γ : Gam} {TΓ : TGam} {outs : List Ref} {H : Hints} {rl : Nat}

/-- The end of code may be told less exactly. -/
theorem AWP.weaker {c : Code} {st : St} {K K' : Out → Prop} (h : AWP C c st K) (h1 : ∀ s, K (.normal s) → ∃ s', Weak C s s' ∧ K' (.normal s')) (h2 : ∀ i s, K (.exit i s) → ∃ s', Weak C s s' ∧ K' (.exit i s'))
    (h3 : ∀ s, K (.ret s) → ∃ s', Weak C s s' ∧ K' (.ret s')) : AWP C c st K' := by
  intro a w hs
  refine Go.wp_mono (h a w hs) ?_
  intro e a' w' he
  cases e with
  | normal => obtain ⟨s, hk, hr⟩ := he; obtain ⟨s', hw, hk'⟩ := h1 s hk; exact ⟨s', hk', hw _ _ hr⟩
  | exit i => obtain ⟨s, hk, hr⟩ := he; obtain ⟨s', hw, hk'⟩ := h2 i s hk; exact ⟨s', hk', hw _ _ hr⟩
  | ret => obtain ⟨s, hk, hr⟩ := he; obtain ⟨s', hw, hk'⟩ := h3 s hk; exact ⟨s', hk', hw _ _ hr⟩
  | _ => exact he.elim

theorem skel_isG (hT : GamT Γ TΓ) (hn : ∀ f, TΓ f = none → Γ f = none) (f : FuncId) : isG (skel TΓ f) = isG (Γ f) := by
  unfold skel
  cases h : TΓ f with
  | none => rw [hn f h]
  | some s =>
    cases s with
    | p c => obtain ⟨⟨F, hF⟩, _⟩ := hT f _ h; rw [hF]; rfl
    | g c => obtain ⟨G, hG, _⟩ := hT f _ h; rw [hG]; rfl

theorem comp_ok (hm : C.P.follows .mixedOrders = true) (hΓ : GamOk C.P Γ) (hD : DirectAll Γ) (hT : GamT Γ TΓ) (hn : ∀ f, TΓ f = none → Γ f = none) (ho : ∀ r, C.D0 r → r ∈ outs) :
    ∀ (c : Code) (R : Type) (ex : List (Nat × Nat)) (live : Nat) (st : TSt) (K : TOut → Option R) (x : R), drawOkD C.P Γ c = true → comp C.P TΓ C.n outs H rl c R ex live st K = some x → st.Ok → AWP C c st.den (PostT K x) := by
  intro c
  induction c with
  | skip => intro R ex live st K x _ h hs a w hr; exact wp_skip ⟨st.den, ⟨.normal st, rfl, hs, h⟩, hr⟩
  | label l => intro R ex live st K x _ h hs a w hr; exact wp_label ⟨st.den, ⟨.normal st, rfl, hs, h⟩, hr⟩
  | region id ops draw =>
    intro R ex live st K x hd h hs a w hr
    have fin : ∀ (s : TSt), evalOps C.P Γ C.n (dsOf ops) ops.toList st.den = some s.den → s.Ok → (!draw || dynOk s.den.env (dynT C.P (skel TΓ) ops)) = true → ∀ s2 : TSt, Weak C s.den s2.den → s2.Ok → K (.normal s2) = some x →
        (Code.region id ops draw).wp C.P (Ends C (PostT K x)) a w := by
      intro s he hsok hpt s2 hw hok2 hk
      cases draw with
      | false => exact region_text hΓ he hr fun a' w' hs' => ⟨s2.den, ⟨.normal s2, rfl, hok2, hk⟩, hw _ _ hs'⟩
      | true =>
        refine region_D hm hΓ hD (by simpa [drawOkD] using hd) he ?_ hr fun a' w' hs' => ⟨s2.den, ⟨.normal s2, rfl, hok2, hk⟩, hw _ _ hs'⟩
        rw [dynT_congr (fun f => (skel_isG hT hn f).symm)]
        simpa using hpt
    simp only [comp] at h
    split at h
    · replace h := evalOpsT_ok hT h hs
      obtain ⟨s, he, hsok, h⟩ := h
      simp only at h
      split at h
      case h_2 => cases h
      rename_i hpt
      exact fin s he hsok hpt s (Weak.refl _) hsok h
    · replace h := bindT_some h
      obtain ⟨z, hz, h⟩ := h
      replace hz := evalOpsT_ok hT hz hs
      obtain ⟨s, he, hsok, hz⟩ := hz
      simp only at hz
      split at hz
      case h_2 => cases hz
      rename_i hpt
      obtain ⟨s2, h1, h2, h3⟩ := matchSt_ok hz hsok ho
      simp only [h1, Option.bind_some] at h
      exact fin s he hsok hpt s2 h3 h2 h
  | seq p q ihp ihq =>
    intro R ex live st K x hd h hs a w hr
    simp only [drawOkD, Bool.and_eq_true] at hd
    simp only [comp] at h
    refine wp_seq (Go.wp_mono (ihp R _ _ st _ x hd.1 h hs a w hr) ?_)
    intro e a' w' he
    cases e with
    | normal =>
      obtain ⟨s', ⟨o', e, hok, hk⟩, hs'⟩ := he
      cases o' with
      | normal s1 => cases e; exact ihq R ex live s1 K x hd.2 hk hok a' w' hs'
      | exit i s1 => cases e
      | ret s1 => cases e
    | exit id =>
      obtain ⟨s', ⟨o', e, hok, hk⟩, hs'⟩ := he
      cases o' with
      | normal s1 => cases e
      | exit i s1 => cases e; exact ⟨_, ⟨.exit _ s1, rfl, hok, hk⟩, hs'⟩
      | ret s1 => cases e
    | ret =>
      obtain ⟨s', ⟨o', e, hok, hk⟩, hs'⟩ := he
      cases o' with
      | normal s1 => cases e
      | exit i s1 => cases e
      | ret s1 => cases e; exact ⟨_, ⟨.ret s1, rfl, hok, hk⟩, hs'⟩
    | _ => exact he.elim
  | cond c p q ihp ihq =>
    intro R ex live st K x hd h hs a w hr
    simp only [drawOkD, Bool.and_eq_true] at hd
    simp only [comp] at h
    replace h := bindT_some h
    obtain ⟨t, ht, h⟩ := h
    have hkn : ∀ b, t = b → (st.knowO c b).den = st.den := fun b e => TSt.knowO_den (by rw [← e]; exact ht)
    have hc : a.eval c = .bool t := by
      obtain ⟨I, ρ, hsc⟩ := hr
      have : asBool (opnd st.den.env c) = some t := by
        have := asBoolT_den ht
        rwa [opndT_den] at this
      exact asBool_rel this (opnd_rel hsc c)
    refine wp_cond hc ?_
    split at h
    · cases t with
      | true => exact ihp R ex live _ K x hd.1 h (TSt.knowO_ok hs) a w (by rw [hkn true rfl]; exact hr)
      | false => exact ihq R ex live _ K x hd.2 h (TSt.knowO_ok hs) a w (by rw [hkn false rfl]; exact hr)
    · rename_i ps _
      unfold joinT at h
      replace h := bindT_some h
      obtain ⟨z, hz, h⟩ := h
      generalize hTT : tmOf C.n live outs (preps C.n st ps) = T at *
      have fin : ∀ (p : Code), AWP C p st.den (PostT (fun
          | .normal s => (matchSt outs T s).map .inl
          | .exit i s => (K (.exit i s)).map .inr
          | .ret s => (K (.ret s)).map .inr : TOut → Option (els T.holes ⊕ R)) z) → AWP C p st.den (PostT K x) := by
        intro p hp
        refine hp.weaker ?_ ?_ ?_
        · rintro s ⟨o', e, hok, hk⟩
          cases o' <;> cases e
          rename_i s1
          simp only [Option.map_eq_some_iff] at hk
          obtain ⟨y, hy, rfl⟩ := hk
          obtain ⟨s2, h1, h2, h3⟩ := matchSt_ok hy hok ho
          simp only [h1, Option.bind_some] at h
          exact ⟨s2.den, h3, .normal s2, rfl, h2, h⟩
        · rintro i s ⟨o', e, hok, hk⟩
          cases o' <;> cases e
          simp only [Option.map_eq_some_iff] at hk
          obtain ⟨y, hy, rfl⟩ := hk
          cases h
          exact ⟨_, Weak.refl _, .exit _ _, rfl, hok, hy⟩
        · rintro s ⟨o', e, hok, hk⟩
          cases o' <;> cases e
          simp only [Option.map_eq_some_iff] at hk
          obtain ⟨y, hy, rfl⟩ := hk
          cases h
          exact ⟨_, Weak.refl _, .ret _, rfl, hok, hy⟩
      cases t with
      | true => exact fin p (by have := ihp _ ex live _ _ z hd.1 hz (TSt.knowO_ok hs); rwa [hkn true rfl] at this) a w hr
      | false => exact fin q (by have := ihq _ ex live _ _ z hd.2 hz (TSt.knowO_ok hs); rwa [hkn false rfl] at this) a w hr
  | block id c ih =>
    intro R ex live st K x hd h hs a w hr
    simp only [drawOkD] at hd
    simp only [comp] at h
    refine wp_block ?_
    split at h
    · refine Go.wp_mono (ih R _ live st _ x hd h hs a w hr) ?_
      intro e a' w' he
      cases e with
      | normal =>
        obtain ⟨s', ⟨o', e, hok, hk⟩, hs'⟩ := he
        cases o' <;> cases e
        exact ⟨_, ⟨.normal _, rfl, hok, hk⟩, hs'⟩
      | exit j =>
        obtain ⟨s', ⟨o', e, hok, hk⟩, hs'⟩ := he
        cases o' <;> cases e
        simp only [Exit.inBlock]
        simp only at hk
        split at hk
        · rename_i hb; rw [if_pos (Nat.eq_of_beq_eq_true hb)]; exact ⟨_, ⟨.normal _, rfl, hok, hk⟩, hs'⟩
        · rename_i hb; rw [if_neg (by intro e; subst e; rw [Nat.beq_refl] at hb; cases hb)]; exact ⟨_, ⟨.exit _ _, rfl, hok, hk⟩, hs'⟩
      | ret =>
        obtain ⟨s', ⟨o', e, hok, hk⟩, hs'⟩ := he
        cases o' <;> cases e
        exact ⟨_, ⟨.ret _, rfl, hok, hk⟩, hs'⟩
      | _ => exact he.elim
    · rename_i ps _
      unfold joinT at h
      replace h := bindT_some h
      obtain ⟨z, hz, h⟩ := h
      generalize hTT : tmOf C.n live outs (preps C.n st ps) = T at *
      have hin : ∀ (s1 : TSt) (a' : Act) (w' : World), s1.Ok → SRel C s1.den a' w' → (matchSt outs T s1).map Sum.inl = some z → ∃ s, PostT K x (.normal s) ∧ SRel C s a' w' := by
        intro s1 a' w' hok hs' hk
        obtain ⟨y, hy, rfl⟩ := Option.map_eq_some_iff.1 hk
        obtain ⟨s2, h1, h2, h3⟩ := matchSt_ok hy hok ho
        simp only [h1, Option.bind_some] at h
        exact ⟨s2.den, ⟨.normal s2, rfl, h2, h⟩, h3 _ _ hs'⟩
      refine Go.wp_mono (ih _ _ live st _ z hd hz hs a w hr) ?_
      intro e a' w' he
      cases e with
      | normal =>
        obtain ⟨s', ⟨o', e, hok, hk⟩, hs'⟩ := he
        cases o' <;> cases e
        exact hin _ a' w' hok hs' hk
      | exit j =>
        obtain ⟨s', ⟨o', e, hok, hk⟩, hs'⟩ := he
        cases o' <;> cases e
        simp only [Exit.inBlock]
        simp only at hk
        split at hk
        · rename_i hb; rw [if_pos (Nat.eq_of_beq_eq_true hb)]; exact hin _ a' w' hok hs' hk
        · rename_i hb; rw [if_neg (by intro e; subst e; rw [Nat.beq_refl] at hb; cases hb)]
          obtain ⟨y, hy, rfl⟩ := Option.map_eq_some_iff.1 hk
          cases h
          exact ⟨_, ⟨.exit _ _, rfl, hok, hy⟩, hs'⟩
      | ret =>
        obtain ⟨s', ⟨o', e, hok, hk⟩, hs'⟩ := he
        cases o' <;> cases e
        obtain ⟨y, hy, rfl⟩ := Option.map_eq_some_iff.1 hk
        cases h
        exact ⟨_, ⟨.ret _, rfl, hok, hy⟩, hs'⟩
      | _ => exact he.elim
  | loop c ih =>
    intro R ex live st K x hd h hs
    simp only [drawOkD] at hd
    simp only [comp] at h
    replace h := bindT_some h
    obtain ⟨x0, hx0, h⟩ := h
    generalize hTT : tmOf C.n (liveIn rl (.loop c) ex live) outs _ = T at *
    obtain ⟨m, hm'⟩ := loopO_iff.1 h
    obtain ⟨s0, hf0, hok0, hw0⟩ := matchSt_ok hx0 hs ho
    refine AWP.weak hw0 ?_
    generalize hf : (fun z : els T.holes => (fillSt T z).bind fun s => comp C.P TΓ C.n outs H rl c (els T.holes ⊕ R) ex (liveIn rl (.loop c) ex live) s fun
      | .normal s => (matchSt outs T s).map Sum.inl
      | .exit i s => (K (.exit i s)).map Sum.inr
      | .ret s => (K (.ret s)).map Sum.inr) = f at *
    refine awp_loop (C := C) (α := { q : Nat × TSt // q.2.Ok ∧ ∃ z, fillSt T z = some q.2 ∧ iterO f q.1 z = some x }) (fun q => q.1.2.den) (fun q => q.1.1) (c := c) (K := PostT K x) ?_ ⟨(m, s0), hok0, x0, hf0, hm'⟩
    rintro ⟨⟨m, s⟩, hok, z, hz, hi⟩
    cases m with
    | zero => cases hi
    | succ m =>
      simp only [iterO] at hi
      have hfz : f z = comp C.P TΓ C.n outs H rl c (els T.holes ⊕ R) ex (liveIn rl (.loop c) ex live) s fun
          | .normal s => (matchSt outs T s).map Sum.inl
          | .exit i s => (K (.exit i s)).map Sum.inr
          | .ret s => (K (.ret s)).map Sum.inr := by rw [← hf]; simp only [hz, Option.bind_some]
      split at hi
      · cases hi
      · rename_i z' hq
        rw [hfz] at hq
        refine (ih _ _ _ s _ _ hd hq hok).mono ?_
        rintro o ⟨o', rfl, hok', hk⟩
        cases o' with
        | normal s1 =>
          obtain ⟨y, hy, e⟩ := Option.map_eq_some_iff.1 hk
          obtain ⟨s2, h1, h2, h3⟩ := matchSt_ok hy hok' ho
          exact ⟨⟨(m, s2), h2, y, h1, by cases e; exact hi⟩, Nat.lt_succ_self _, h3⟩
        | exit i s1 => obtain ⟨y, _, e⟩ := Option.map_eq_some_iff.1 hk; cases e
        | ret s1 => obtain ⟨y, _, e⟩ := Option.map_eq_some_iff.1 hk; cases e
      · rename_i r hq
        cases hi
        rw [hfz] at hq
        refine (ih _ _ _ s _ _ hd hq hok).mono ?_
        rintro o ⟨o', rfl, hok', hk⟩
        cases o' with
        | normal s1 => obtain ⟨y, _, e⟩ := Option.map_eq_some_iff.1 hk; cases e
        | exit i s1 => obtain ⟨y, hy, e⟩ := Option.map_eq_some_iff.1 hk; cases e; exact ⟨.exit i s1, rfl, hok', hy⟩
        | ret s1 => obtain ⟨y, hy, e⟩ := Option.map_eq_some_iff.1 hk; cases e; exact ⟨.ret s1, rfl, hok', hy⟩
  | exit id => intro R ex live st K x _ h hs a w hr; exact wp_exit ⟨st.den, ⟨.exit id st, rfl, hs, h⟩, hr⟩
  | ret => intro R ex live st K x _ h hs a w hr; exact wp_ret ⟨st.den, ⟨.ret st, rfl, hs, h⟩, hr⟩
  | _ => intro R ex live st K x _ h; cases h

end
end Go.Abs

/- Functions of data: the contract out of the code's function. -/
namespace Go.Abs
open Go.RowKit

/-! ### The state that a function begins with -/
def entK (k : SK) (x : k.ty.el) : TV := match k, x with
  | .leaf τ, x => .dat τ x
  | .st τ, x => .sdat τ x
  | .ptr τ, x => .epd τ x 0
theorem entK_den (k : SK) (x : k.ty.el) : (entK k x).den = .pd (k.enc x) := by cases k <;> rfl

def entKs : List SK → List Dyn → Option (List TV × List Dyn)
  | [], ds => some ([], ds)
  | k :: ks, ds => match ds with
    | ⟨τ, x⟩ :: ds => match Ty.cast τ k.ty x with
      | some x => match entKs ks ds with
        | some (vs, ds) => some (entK k x :: vs, ds)
        | none => none
      | none => none
    | [] => none
def entAs : List SA → List Dyn → Option (List TV)
  | [], _ => some []
  | .s k :: as, ds => match ds with
    | ⟨τ, x⟩ :: ds => match Ty.cast τ k.ty x with
      | some x => match entAs as ds with
        | some vs => some (entK k x :: vs)
        | none => none
      | none => none
    | [] => none
  | .clo fn a b :: as, ds => match entKs a ds with
    | some (xs, ds) => match entKs b ds with
      | some (ys, ds) => match entAs as ds with
        | some vs => some (.clo (.func fn) xs ys :: vs)
        | none => none
      | none => none
    | none => none

def nthT : List TV → Nat → TV
  | [], _ => .und
  | v :: _, 0 => v
  | _ :: l, t + 1 => nthT l t
theorem nthT_get : ∀ (l : List TV) (t : Nat), nthT l t = match l[t]? with | some v => v | none => .und
  | [], t => by simp [nthT]
  | v :: l, 0 => by simp [nthT]
  | v :: l, t + 1 => by simp [nthT, nthT_get l t]

def goodA : SA → Bool
  | .s k => k.good
  | .clo _ a b => a.all SK.good && b.all SK.good

section
variable {I : Nat → Prop} {w : World} {ρ : Ref → Pl}

theorem dec_rel {k : SK} (hg : k.good = true) {d : PD} {x : k.ty.el} {v : Value} (h : k.dec d = some x) (hv : VRel I w d v) : VRel I w (k.enc x) v := by
  cases k with
  | leaf τ =>
    simp only [SK.good, Bool.and_eq_true] at hg
    simp only [SK.dec] at h
    have h := allOf_some h
    have := (decC_rel τ I w _ _ _ h).1 [v] (by simp only [VRels]; exact ⟨v, [], rfl, hv, rfl⟩)
    rw [show encC τ x = [encL τ x] from encC_leaf hg.1 x] at this
    simp only [List.append_nil, VRels] at this
    obtain ⟨_, _, e, k, _⟩ := this
    cases e; exact k
  | st τ =>
    cases d <;> simp only [SK.dec, reduceCtorEq] at h
    have h := allOf_some h
    simp only [VRel] at hv
    obtain ⟨vs, e, hc, hr⟩ := hv
    have := (decC_rel τ I w _ _ _ h).1 _ hr
    rw [List.append_nil] at this
    simp only [SK.enc, VRel]
    exact ⟨vs, e, hc, this⟩
  | ptr τ =>
    cases d with
    | ptr cs off =>
      cases off <;> simp only [SK.dec, reduceCtorEq] at h
      have h := allOf_some h
      simp only [VRel] at hv
      obtain ⟨b, o, e, hb, ha⟩ := hv
      have := (decC_rel τ I w _ _ _ h).2 b o ha
      rw [List.append_nil] at this
      simp only [SK.enc, VRel]
      exact ⟨b, o, e, hb, this⟩
    | _ => simp only [SK.dec, reduceCtorEq] at h

theorem entKs_rel : ∀ {ks : List SK} {ds : List PD} {xs rest : List Dyn} {vs : List Value}, ks.all SK.good = true → decKs ks ds = some xs → VRels I w ds vs →
    ∃ ts, entKs ks (xs ++ rest) = some (ts, rest) ∧ ARels I w ρ (ts.map TV.den) vs ∧ (∀ D, AV.oks D (ts.map TV.den)) ∧ ∀ L, ∀ t ∈ ts, okV L t
  | [], [], xs, rest, vs, _, h, hv => by cases h; exact ⟨[], rfl, by simpa [ARels, VRels] using hv, fun D => by simp [AV.oks], by simp⟩
  | [], _ :: _, _, _, _, _, h, _ => by cases h
  | _ :: _, [], _, _, _, _, h, _ => by cases h
  | k :: ks, d :: ds, xs, rest, vs, hg, h, hv => by
    simp only [List.all_cons, Bool.and_eq_true] at hg
    simp only [decKs] at h
    split at h
    · rename_i x ys hx hys
      cases h
      simp only [VRels] at hv
      obtain ⟨v, vs', rfl, h1, h2⟩ := hv
      obtain ⟨ts, k1, k2, k3, k4⟩ := entKs_rel (rest := rest) hg.2 hys h2
      refine ⟨entK k x :: ts, by simp only [List.cons_append, entKs, Ty.cast_self, k1], ?_, fun D => ?_, fun L t ht => ?_⟩
      · simp only [List.map_cons, ARels, entK_den, ARel]; exact ⟨v, vs', rfl, dec_rel hg.1 hx h1, k2⟩
      · simp only [List.map_cons, AV.oks, entK_den, AV.ok]; exact ⟨trivial, k3 D⟩
      · rcases List.mem_cons.1 ht with rfl | ht
        · cases k <;> simp only [entK, okV]
        · exact k4 L t ht
    · cases h

theorem entAs_rel : ∀ {as : List SA} {ds : List PD} {xs : List Dyn} {vs : List Value}, as.all goodA = true → decArgs as ds = some xs → VRels I w ds vs →
    ∃ ts, entAs as xs = some ts ∧ ARels I w ρ (ts.map TV.den) vs ∧ (∀ D, AV.oks D (ts.map TV.den)) ∧ ∀ L, ∀ t ∈ ts, okV L t
  | [], [], xs, vs, _, h, hv => by cases h; exact ⟨[], rfl, by simpa [ARels, VRels] using hv, fun D => by simp [AV.oks], by simp⟩
  | [], _ :: _, _, _, _, h, _ => by cases h
  | _ :: _, [], _, _, _, h, _ => by cases h
  | a :: as, d :: ds, xs, vs, hg, h, hv => by
    simp only [List.all_cons, Bool.and_eq_true] at hg
    simp only [decArgs] at h
    split at h
    case h_2 => cases h
    rename_i xs1 xs2 hx1 hx2
    cases h
    simp only [VRels] at hv
    obtain ⟨v, vs', rfl, h1, h2⟩ := hv
    obtain ⟨ts, k1, k2, k3, k4⟩ := entAs_rel hg.2 hx2 h2
    cases a with
    | s k =>
      simp only [SA.dec] at hx1
      split at hx1
      · rename_i x hx
        cases hx1
        refine ⟨entK k x :: ts, by simp only [List.cons_append, List.nil_append, entAs, Ty.cast_self, k1], ?_, fun D => ?_, fun L t ht => ?_⟩
        · simp only [List.map_cons, ARels, entK_den, ARel]; exact ⟨v, vs', rfl, dec_rel hg.1 hx h1, k2⟩
        · simp only [List.map_cons, AV.oks, entK_den, AV.ok]; exact ⟨trivial, k3 D⟩
        · rcases List.mem_cons.1 ht with rfl | ht
          · cases k <;> simp only [entK, okV]
          · exact k4 L t ht
      · cases hx1
    | clo fn a b =>
      cases d <;> try cases hx1
      rename_i f as' bs'
      cases f <;> try cases hx1
      rename_i f
      simp only [SA.dec] at hx1
      split at hx1
      · rename_i ys1 ys2 hb hy1 hy2
        cases hx1
        simp only [goodA, Bool.and_eq_true] at hg
        simp only [VRel] at h1
        obtain ⟨p, q, rfl, r1, r2⟩ := h1
        obtain ⟨ts1, a1, a2, a3, a4⟩ := entKs_rel (ρ := ρ) (rest := ys2 ++ xs2) hg.1.1 hy1 r1
        obtain ⟨ts2, b1, b2, b3, b4⟩ := entKs_rel (ρ := ρ) (rest := xs2) hg.1.2 hy2 r2
        refine ⟨.clo (.func fn) ts1 ts2 :: ts, by simp only [List.append_assoc, entAs, a1, b1, k1], ?_, fun D => ?_, fun L t ht => ?_⟩
        · simp only [List.map_cons, ARels, TV.den, TV.dens_eq, ARel]
          exact ⟨_, vs', rfl, ⟨p, q, by rw [Nat.eq_of_beq_eq_true hb], a2, b2⟩, k2⟩
        · simp only [List.map_cons, AV.oks, TV.den, TV.dens_eq, AV.ok]; exact ⟨⟨a3 D, b3 D⟩, k3 D⟩
        · rcases List.mem_cons.1 ht with rfl | ht
          · simp only [okV]; exact ⟨okVs_iff.2 (a4 L), okVs_iff.2 (b4 L)⟩
          · exact k4 L t ht
      · cases hx1
end

/-! ### What a function hands back -/
def resTV (P : Program) (s : TSt) : List ResultVar → Option (List TV)
  | [] => some []
  | .tmp t :: l => (resTV P s l).map (s.env t :: ·)
  | .cell a t :: l => (resTV P s l).bind fun vs => loadT P s.blk t (s.env a) fun v => some (v :: vs)

def capRes (blk : TBlk) : List Bool → List Ty → List TV → Option (List Dyn)
  | [], [], [] => some []
  | b :: bs, τ :: ts, v :: vs => match b with
    | true => match (SK.st τ).good with
      | true => ((SK.st τ).cap true blk v).bind fun x => (capRes blk bs ts vs).map (⟨τ, x⟩ :: ·)
      | false => none
    | false => match (SK.leaf τ).good with
      | true => ((SK.leaf τ).cap true blk v).bind fun x => (capRes blk bs ts vs).map (⟨τ, x⟩ :: ·)
      | false => none
  | _, _, _ => none

def capResK {R : Type} (blk : TBlk) : List Bool → List Ty → List TV → (List Dyn → Option R) → Option R
  | [], [], [], K => K []
  | b :: bs, τ :: ts, v :: vs, K => match b with
    | true => match (SK.st τ).good with
      | true => ((SK.st τ).cap true blk v).bind fun x => capResK blk bs ts vs fun ds => K (⟨τ, x⟩ :: ds)
      | false => none
    | false => match (SK.leaf τ).good with
      | true => ((SK.leaf τ).cap true blk v).bind fun x => capResK blk bs ts vs fun ds => K (⟨τ, x⟩ :: ds)
      | false => none
  | _, _, _, _ => none
theorem capResK_some {R : Type} {blk : TBlk} {x : R} : ∀ {bs : List Bool} {ts : List Ty} {vs : List TV} {K : List Dyn → Option R}, capResK blk bs ts vs K = some x → ∃ ds, capRes blk bs ts vs = some ds ∧ K ds = some x
  | [], [], [], K, h => ⟨[], rfl, h⟩
  | b :: bs, τ :: ts, v :: vs, K, h => by
    cases b with
    | true =>
      simp only [capResK] at h
      split at h
      · rename_i hg
        replace h := bindT_some h
        obtain ⟨y, hy, h⟩ := h
        obtain ⟨ds, hd, h⟩ := capResK_some h
        refine ⟨⟨τ, y⟩ :: ds, ?_, h⟩
        simp only [capRes, hg]
        rw [hy, Option.bind_some, hd]; rfl
      · cases h
    | false =>
      simp only [capResK] at h
      split at h
      · rename_i hg
        replace h := bindT_some h
        obtain ⟨y, hy, h⟩ := h
        obtain ⟨ds, hd, h⟩ := capResK_some h
        refine ⟨⟨τ, y⟩ :: ds, ?_, h⟩
        simp only [capRes, hg]
        rw [hy, Option.bind_some, hd]; rfl
      · cases h
  | [], _ :: _, _, _, h => by simp [capResK] at h
  | [], [], _ :: _, _, h => by simp [capResK] at h
  | _ :: _, [], _, _, h => by simp [capResK] at h
  | _ :: _, _ :: _, [], _, h => by simp [capResK] at h

def retT (P : Program) (rv : List ResultVar) (bs : List Bool) (rs : List Ty) (s : TSt) : Option (els rs) :=
  (resTV P s rv).bind fun vs => capResK s.blk bs rs vs (pack rs)
def outT (P : Program) (rv : List ResultVar) (bs : List Bool) (rs : List Ty) : TOut → Option (els rs)
  | .normal s => retT P rv bs rs s
  | .ret s => retT P rv bs rs s
  | .exit _ _ => none

theorem resTV_ok {P : Program} {s : TSt} (hs : s.Ok) : ∀ {l : List ResultVar} {vs : List TV}, resTV P s l = some vs → l.mapM (resOne P s.den) = some (vs.map TV.den) ∧ ∀ v ∈ vs, okV (lenOk s.blk) v
  | [], vs, h => by cases h; exact ⟨rfl, by simp⟩
  | .tmp t :: l, vs, h => by
    simp only [resTV, Option.map_eq_some_iff] at h
    obtain ⟨us, hu, rfl⟩ := h
    obtain ⟨k1, k2⟩ := resTV_ok hs hu
    refine ⟨by rw [List.mapM_cons, k1]; rfl, fun v hv => ?_⟩
    rcases List.mem_cons.1 hv with rfl | hv
    · exact hs.env t
    · exact k2 v hv
  | .cell a t :: l, vs, h => by
    simp only [resTV] at h
    replace h := bindT_some h
    obtain ⟨us, hu, h⟩ := h
    obtain ⟨k1, k2⟩ := resTV_ok hs hu
    obtain ⟨v, h1, h2, h3⟩ := loadT_ok h hs.blk
    cases h3
    refine ⟨?_, fun u hu => ?_⟩
    · rw [List.mapM_cons, k1]
      simp only [resOne, TSt.den, denE, h1]; rfl
    · rcases List.mem_cons.1 hu with rfl | hu
      · exact h2
      · exact k2 u hu

theorem capRes_ok {blk : TBlk} {L : Ref → Nat → Prop} (hL : ∀ r n, L r n → ∀ τ rows, blk r = some (.arr τ rows) ∨ blk r = some (.fro τ rows) → n = rows.length) : ∀ {bs : List Bool} {ts : List Ty} {vs : List TV} {ds : List Dyn}, capRes blk bs ts vs = some ds → (∀ v ∈ vs, okV L v) →
    (vs.map TV.den).mapM (view true (denB blk) 8) = some ((tagged bs ds).map resPD) ∧ (tagged bs ds).length = vs.length
  | [], [], [], ds, h, _ => by cases h; exact ⟨rfl, rfl⟩
  | b :: bs, τ :: ts, v :: vs, ds, h, hv => by
    have one : ∀ (k : SK), k.ty = τ → resPD (b, ⟨τ, k.ty.dflt |> fun _ => τ.dflt⟩) = resPD (b, ⟨τ, τ.dflt⟩) := fun _ _ => rfl
    cases b with
    | true =>
      simp only [capRes] at h
      split at h
      · rename_i hg
        replace h := bindT_some h
        obtain ⟨x, hx, h⟩ := h
        obtain ⟨es, he, rfl⟩ := Option.map_eq_some_iff.1 h
        have k1 := SK.cap_ok hg hx hL (hv v (by simp)) 6
        obtain ⟨k2, k3⟩ := capRes_ok hL he (fun u hu => hv u (by simp [hu]))
        refine ⟨?_, by simp only [tagged, List.length_cons, k3]⟩
        rw [List.map_cons, List.mapM_cons, k1, k2]; rfl
      · cases h
    | false =>
      simp only [capRes] at h
      split at h
      · rename_i hg
        replace h := bindT_some h
        obtain ⟨x, hx, h⟩ := h
        obtain ⟨es, he, rfl⟩ := Option.map_eq_some_iff.1 h
        have k1 := SK.cap_ok hg hx hL (hv v (by simp)) 6
        obtain ⟨k2, k3⟩ := capRes_ok hL he (fun u hu => hv u (by simp [hu]))
        refine ⟨?_, by simp only [tagged, List.length_cons, k3]⟩
        rw [List.map_cons, List.mapM_cons, k1, k2]; rfl
      · cases h
  | [], _ :: _, _, _, h, _ => by simp [capRes] at h
  | [], [], _ :: _, _, h, _ => by simp [capRes] at h
  | _ :: _, [], _, _, h, _ => by simp [capRes] at h
  | _ :: _, _ :: _, [], _, h, _ => by simp [capRes] at h

theorem retT_ok {P : Program} {s : TSt} (hs : s.Ok) {rv : List ResultVar} {bs : List Bool} {rs : List Ty} {y : els rs} (h : retT P rv bs rs s = some y) : resP P rv s.den = some (outPD (tagged bs (unpack rs y))) := by
  unfold retT at h
  replace h := bindT_some h
  obtain ⟨vs, hvs, h⟩ := h
  obtain ⟨ds, hds, h⟩ := capResK_some h
  obtain ⟨k1, k2⟩ := resTV_ok hs hvs
  obtain ⟨k3, k4⟩ := capRes_ok (fun _ _ h => h.2) hds k2
  rw [unpack_pack _ _ _ h]
  unfold resP
  rw [k1]
  generalize tagged bs ds = ts at *
  match vs, ts, k3, k4 with
  | [], [], k3, _ => rfl
  | [v], [t], k3, _ =>
    simp only [List.map_cons, List.map_nil] at k3 ⊢
    rw [List.mapM_cons] at k3
    simp only [outPD]
    show view true (denB s.blk) 8 v.den = _
    cases hq : view true (denB s.blk) 8 v.den with
    | none => rw [hq] at k3; cases k3
    | some d => rw [hq] at k3; cases k3; rfl
  | v :: u :: vs, t :: t2 :: ts, k3, _ =>
    simp only [List.map_cons] at k3 ⊢
    show (match List.mapM (view true (denB s.blk) 8) (v.den :: u.den :: List.map TV.den vs) with
      | some ds => some (PD.tup ds)
      | none => none) = _
    rw [k3]; rfl
  | [], _ :: _, _, k4 => simp at k4
  | [_], [], _, k4 => simp at k4
  | [_], _ :: _ :: _, _, k4 => simp at k4
  | _ :: _ :: _, [], _, k4 => simp at k4
  | _ :: _ :: _, [_], _, k4 => simp at k4

def resUses : List ResultVar → Nat
  | [] => 0
  | .tmp t :: l => Nat.lor (bit t) (resUses l)
  | .cell a _ :: l => Nat.lor (bit a) (resUses l)

/-- The function of the data that the code is. -/
noncomputable def runT (P : Program) (TΓ : TGam) (f : FuncId) (H : Hints) (as : List SA) (ts : List Ty) (bs : List Bool) (rs : List Ty) (x : els ts) : Option (els rs) :=
  match P.funcs[f]? with
  | none => none
  | some fn => match fn.body with
    | none => none
    | some c => match entAs as (unpack ts x) with
      | none => none
      | some vs => comp P TΓ fn.ntmps [] H (resUses fn.results.toList) c (els rs) [] (resUses fn.results.toList) ⟨nthT vs, fun _ => none⟩ (outT P fn.results.toList bs rs)

/-- What can be looked up once. -/
def okF (P : Program) (TΓ : TGam) (f : FuncId) (as : List SA) : Bool := match P.funcs[f]? with
  | none => false
  | some fn => match fn.body with
    | none => false
    | some c => drawOkD P (skel TΓ) c && as.all goodA && Nat.ble as.length fn.ntmps && !(fn.name == "runtime.NumGoroutine")

section
variable {P : Program} {Γ : Gam} {TΓ : TGam}

theorem okF_enters {f : FuncId} {as : List SA} (h : okF P TΓ f as = true) : Enters P f := by
  unfold okF at h
  split at h
  · cases h
  rename_i fn hf
  split at h
  · cases h
  rename_i c hb
  simp only [Bool.and_eq_true, Bool.not_eq_true'] at h
  exact ⟨fn, c, hf, h.2, hb⟩

theorem decArgs_length : ∀ {as : List SA} {ds : List PD} {xs : List Dyn}, decArgs as ds = some xs → ds.length = as.length
  | [], [], _, _ => rfl
  | [], _ :: _, _, h => by cases h
  | _ :: _, [], _, h => by cases h
  | a :: as, d :: ds, xs, h => by
    simp only [decArgs] at h
    split at h
    · rename_i h2; simp only [List.length_cons, decArgs_length h2]
    · cases h

/-- The contract of a function that works on data. -/
theorem psoundT (hm : P.follows .mixedOrders = true) (hΓ : GamOk P Γ) (hD : DirectAll Γ) (hT : GamT Γ TΓ) (hn : ∀ f, TΓ f = none → Γ f = none) {f : FuncId} (H : Hints) (s : PSpec) (hok : okF P TΓ f s.args = true)
    (h : ∀ x y, s.F x = some y → runT P TΓ f H s.args s.ts s.bs s.rs x = some y) : PSound P f s.lift := by
  intro I w ds xs r hr hI hx
  unfold PSpec.lift at hr
  split at hr
  case h_2 => cases hr
  rename_i as has
  split at hr
  case h_2 => cases hr
  rename_i x hpk
  split at hr
  case h_2 => cases hr
  rename_i y hF
  cases hr
  have hrun := h x y hF
  unfold runT at hrun
  unfold okF at hok
  split at hok
  · cases hok
  rename_i fn hf
  rw [hf] at hrun
  simp only at hrun
  split at hok
  · cases hok
  rename_i c hb
  rw [hb] at hrun
  simp only at hrun
  simp only [Bool.and_eq_true, Bool.not_eq_true'] at hok
  obtain ⟨⟨⟨hd, hg⟩, hlen⟩, hname⟩ := hok
  have hlen := Nat.le_of_ble_eq_true hlen
  rw [unpack_pack _ _ _ hpk] at hrun
  obtain ⟨ts, e1, e2, e3, e4⟩ := entAs_rel (I := I) (w := w) (ρ := fun _ => Pl.gone) hg has hx
  rw [e1] at hrun
  simp only at hrun
  let C : Ctx := { P, w0 := w, I0 := I, fix := fun _ => True, n := fn.ntmps }
  have hxl := hx.length
  have hdl := decArgs_length has
  have hent : SRel C (TSt.den ⟨nthT ts, fun _ => none⟩) { tmps := xs.toArray ++ Array.replicate (fn.ntmps - xs.toArray.size) undef, defers := [] } w := by
    refine ⟨I, fun _ => .gone, rfl, by simp [C]; omega, ⟨hI, by simp [TSt.den, denB], by simp [TSt.den, denB], by simp [TSt.den, denB]⟩, fun _ k => k, fun _ k => .inl k, Frame.refl _ _, by simp [TSt.den, denB], fun t => ?_, fun t => ?_, fun _ h => h.elim⟩
    · simp only [TSt.den, denE, nthT_get]
      cases ht : ts[t]? with
      | none => simp only [TV.den, ARel]
      | some v =>
        have ht' : (ts.map TV.den)[t]? = some v.den := by simp [ht]
        obtain ⟨u, hu, hr⟩ := ARels.get e2 ht'
        have : (xs.toArray ++ Array.replicate (fn.ntmps - xs.toArray.size) undef).getD t undef = u := by
          have hlt : t < xs.length := (List.getElem?_eq_some_iff.1 hu).1
          rw [Array.getD_eq_getD_getElem?, Array.getElem?_append_left (by simpa using hlt)]
          simp [hu]
        rw [this]; exact hr
    · simp only [TSt.den, denE, nthT_get]
      cases ht : ts[t]? with
      | none => simp only [TV.den, AV.ok]
      | some v => exact AV.oks_iff.1 (e3 _) v.den (List.mem_map.2 ⟨v, List.mem_of_getElem? ht, rfl⟩)
  have hstok : TSt.Ok ⟨nthT ts, fun _ => none⟩ := by
    refine ⟨fun t => ?_, fun r cs h => by cases h⟩
    show okV _ (nthT ts t)
    rw [nthT_get]
    cases ht : ts[t]? with
    | none => simp only [okV]
    | some v => exact e4 _ v (List.mem_of_getElem? ht)
  have hdr : drawOkD P Γ c = true := by rw [← drawOkD_congr (fun g => skel_isG hT hn g)]; exact hd
  have key := comp_ok (C := C) (outs := []) (H := H) hm hΓ hD hT hn (fun _ h => h.elim) c _ _ _ _ _ _ hdr hrun hstok
  refine calls_of_wp hf hb (Go.wp_mono (key _ w hent) ?_)
  intro e a' w' hx'
  cases e with
  | normal =>
    obtain ⟨s', ⟨o', e, hok, hk⟩, hs'⟩ := hx'
    cases o' <;> cases e
    exact res_fin (retT_ok hok hk) hs'
  | exit i =>
    obtain ⟨s', ⟨o', e, hok, hk⟩, hs'⟩ := hx'
    cases o' <;> cases e
    cases hk
  | ret =>
    obtain ⟨s', ⟨o', e, hok, hk⟩, hs'⟩ := hx'
    cases o' <;> cases e
    exact res_fin (retT_ok hok hk) hs'
  | _ => exact hx'.elim

end
end Go.Abs

/- What a caller has behind a call that worked on some of its blocks. -/
namespace Go.Abs
open Go.RowKit

def overX (N : List (Ref × Ref × Block)) (R : List (Ref × Ref)) (blk : Blk) : Blk := fun r => match findO N r with
  | some (_, B) => some B
  | none => match memR r (R.map (·.1)) with
    | true => some .dead
    | false => blk r

theorem memR_iff {r : Ref} : ∀ {l : List Ref}, memR r l = true ↔ r ∈ l
  | [] => by simp [memR]
  | x :: l => by simp [memR, memR_iff (l := l)]

section

theorem endX_rel {I I' : Nat → Prop} {w w' : World} {ρ ρ1 : Ref → Pl} {blk : Blk} {R : List (Ref × Ref)} {N : List (Ref × Ref × Block)} (h : HRel I ρ w blk) (fix : Nat → Prop) (hfix : fix = fun b => ¬ Held (fun r => r ∈ R.map (·.1)) blk ρ b)
    (old : ∀ b, I b → I' b) (frame : Frame fix w w') (imm : ∀ b, I' b → b < w'.heap.size) (new : ∀ b, I' b → I b ∨ w.heap.size ≤ b ∨ ¬ fix b)
    (hN : ∀ r q B, (r, q, B) ∈ N → (((r, q) ∈ R ∧ (ρ1 q = ρ r ∨ ρ1 q = .gone)) ∨ blk r = none) ∧ B.ok (fun _ => False) ∧ (∀ ρ', ρ' r = ρ1 q → BRel I' w' ρ' r B) ∧ (B.owned = true → ∀ b o ct sz, ρ1 q = .at b o ct sz → fix b → w.heap.size ≤ b))
    (hinj : ∀ r q B r' q' B' b o ct sz o' ct' sz', (r, q, B) ∈ N → B.owned = true → (r', q', B') ∈ N → B'.owned = true → ρ1 q = .at b o ct sz → ρ1 q' = .at b o' ct' sz' → r = r') :
    ∃ ρ', HRel I' ρ' w' (overX N R blk) ∧ (∀ r q B, findO N r = some (q, B) → ρ' r = ρ1 q) ∧ (∀ r, dom blk r → dom (overX N R blk) r) ∧ Later (dom blk) ρ ρ' ∧
      (∀ b, I b → I' b) ∧ (∀ b, I b → w'.heap[b]? = w.heap[b]?) ∧ (∀ b, I' b → I b ∨ w.heap.size ≤ b ∨ Held (fun _ => True) blk ρ b) ∧
      Frame (fun b => ¬ Held (fun _ => True) blk ρ b) w w' ∧ (∀ b, Held (fun _ => True) (overX N R blk) ρ' b → w.heap.size ≤ b ∨ Held (fun _ => True) blk ρ b) := by
  subst hfix
  have nI : ∀ b, I b → ¬ Held (fun r => r ∈ R.map (·.1)) blk ρ b := by
    rintro b hb ⟨x, B, o, ct, sz, _, h1, h2, h3⟩
    exact (h.placed_lt h1 h2 h3).2 hb
  have kept : ∀ r B b o ct sz, r ∉ R.map (·.1) → blk r = some B → B.owned = true → ρ r = .at b o ct sz → ¬ Held (fun r => r ∈ R.map (·.1)) blk ρ b := by
    rintro r B b o ct sz hr hB hO hp ⟨x, B', o', ct', sz', hx, h1, h2, h3⟩
    exact hr (by rw [h.inj r x B B' b _ _ _ _ _ _ hB hO h1 h2 hp h3]; exact hx)
  have hI : ∀ b, I b → I' b := old
  have hw : ∀ b, I b → w'.heap[b]? = w.heap[b]? := fun b hb => frame.block b (h.imm b hb) (nI b hb)
  let ρ' : Ref → Pl := fun r => match findO N r with
    | some (q, _) => ρ1 q
    | none => match memR r (R.map (·.1)) with
      | true => .gone
      | false => ρ r
  have ρnew : ∀ r q B, findO N r = some (q, B) → ρ' r = ρ1 q := by intro r q B hf; simp only [ρ', hf]
  have ρdead : ∀ r, findO N r = none → r ∈ R.map (·.1) → ρ' r = .gone := by intro r hf hr; simp only [ρ', hf, memR_iff.2 hr]
  have mf : ∀ r, r ∉ R.map (·.1) → memR r (R.map (·.1)) = false := by
    intro r hr
    cases hm : memR r (R.map (·.1)) with
    | false => rfl
    | true => exact (hr (memR_iff.1 hm)).elim
  have ρold : ∀ r, findO N r = none → r ∉ R.map (·.1) → ρ' r = ρ r := by intro r hf hr; simp only [ρ', hf, mf r hr]
  have later : Later (dom blk) ρ ρ' := by
    intro r hr
    cases hf : findO N r with
    | some qB =>
      obtain ⟨q, B⟩ := qB
      rw [ρnew r q B hf]
      obtain ⟨hR, _⟩ := hN r q B (findO_mem hf)
      rcases hR with ⟨_, hR⟩ | hR
      · exact hR
      · simp [dom, hR] at hr
    | none =>
      rcases Classical.em (r ∈ R.map (·.1)) with hm | hm
      · exact .inr (ρdead r hf hm)
      · exact .inl (ρold r hf hm)
  have look : ∀ r B, overX N R blk r = some B → (∃ q, findO N r = some (q, B)) ∨ (findO N r = none ∧ r ∈ R.map (·.1) ∧ B = .dead) ∨ (findO N r = none ∧ r ∉ R.map (·.1) ∧ blk r = some B) := by
    intro r B hr
    unfold overX at hr
    cases hf : findO N r with
    | some qB =>
      obtain ⟨q, B'⟩ := qB
      rw [hf] at hr
      cases hr
      exact .inl ⟨q, rfl⟩
    | none =>
      rw [hf] at hr
      simp only at hr
      split at hr
      · rename_i hm; cases hr; exact .inr (.inl ⟨rfl, memR_iff.1 hm, rfl⟩)
      · rename_i hm
        refine .inr (.inr ⟨rfl, fun hk => ?_, hr⟩)
        rw [memR_iff.2 hk] at hm; cases hm
  have domold : ∀ r, dom blk r → dom (overX N R blk) r := by
    intro r hr
    unfold dom overX
    cases hf : findO N r with
    | some qB => rfl
    | none =>
      simp only
      split
      · rfl
      · exact hr
  have newAt : ∀ r q B b o ct sz, (r, q, B) ∈ N → B.owned = true → ρ1 q = .at b o ct sz → w.heap.size ≤ b ∨ Held (fun r => r ∈ R.map (·.1)) blk ρ b := by
    intro r q B b o ct sz h1 h2 h3
    rcases Classical.em (Held (fun r => r ∈ R.map (·.1)) blk ρ b) with k | k
    · exact .inr k
    · exact .inl ((hN r q B h1).2.2.2 h2 b o ct sz h3 k)
  have hnewI : ∀ b, I' b → I b ∨ w.heap.size ≤ b ∨ Held (fun r => r ∈ R.map (·.1)) blk ρ b := by
    intro b hb
    rcases new b hb with k | k | k
    · exact .inl k
    · exact .inr (.inl k)
    · exact .inr (.inr (Classical.not_not.1 k))
  have okF : ∀ {B : Block} {D : Ref → Prop}, B.ok (fun _ => False) → B.ok D := by
    intro B D hB
    cases B with
    | vars cs => exact AV.oks.mono (fun _ k => k.elim) cs hB
    | _ => trivial
  refine ⟨ρ', ⟨imm, ?_, ?_, ?_⟩, ρnew, domold, later, hI, hw, ?_, ?_, ?_⟩
  · intro r B hr
    rcases look r B hr with ⟨q, hf⟩ | ⟨hf, hm, rfl⟩ | ⟨hf, hm, h1⟩
    · exact (hN r q B (findO_mem hf)).2.2.1 ρ' (ρnew r q B hf)
    · exact ρdead r hf hm
    · refine (h.rel r B h1).mono (D := dom blk) hI hw later (ρold r hf hm) (h.ok r B h1) ?_
      intro b o ct sz hp hO
      have hlt := h.placed_lt h1 hO hp
      have hk := kept r B b o ct sz hm h1 hO hp
      refine ⟨frame.block b hlt.1 hk, fun hb => ?_⟩
      rcases hnewI b hb with k | k | k
      · exact hlt.2 k
      · exact absurd hlt.1 (by omega)
      · exact hk k
  · intro r r' B B' b o ct sz o' ct' sz' hr hO hr' hO' hp hp'
    rcases look r B hr with ⟨q, hf⟩ | ⟨hf, hm, rfl⟩ | ⟨hf, hm, h1⟩
    · have hm0 := findO_mem hf
      rw [ρnew r q B hf] at hp
      rcases look r' B' hr' with ⟨q', hf'⟩ | ⟨hf', hm', rfl⟩ | ⟨hf', hm', h1'⟩
      · have hm0' := findO_mem hf'
        rw [ρnew r' q' B' hf'] at hp'
        exact hinj r q B r' q' B' b _ _ _ _ _ _ hm0 hO hm0' hO' hp hp'
      · cases hO'
      · rw [ρold r' hf' hm'] at hp'
        have hlt := h.placed_lt h1' hO' hp'
        have hk := kept r' B' b _ _ _ hm' h1' hO' hp'
        rcases newAt r q B b _ _ _ hm0 hO hp with k | k
        · exact absurd hlt.1 (by omega)
        · exact (hk k).elim
    · cases hO
    · rw [ρold r hf hm] at hp
      rcases look r' B' hr' with ⟨q', hf'⟩ | ⟨hf', hm', rfl⟩ | ⟨hf', hm', h1'⟩
      · have hm0' := findO_mem hf'
        rw [ρnew r' q' B' hf'] at hp'
        have hlt := h.placed_lt h1 hO hp
        have hk := kept r B b _ _ _ hm h1 hO hp
        rcases newAt r' q' B' b _ _ _ hm0' hO' hp' with k | k
        · exact absurd hlt.1 (by omega)
        · exact (hk k).elim
      · cases hO'
      · rw [ρold r' hf' hm'] at hp'
        exact h.inj r r' B B' b _ _ _ _ _ _ h1 hO h1' hO' hp hp'
  · intro r B hr
    rcases look r B hr with ⟨q, hf⟩ | ⟨hf, hm, rfl⟩ | ⟨hf, hm, h1⟩
    · exact okF (hN r q B (findO_mem hf)).2.1
    · trivial
    · have := h.ok r B h1
      cases B with
      | vars cs => exact AV.oks.mono domold cs this
      | _ => trivial
  · intro b hb
    rcases hnewI b hb with k | k | ⟨x, B, o, ct, sz, _, k⟩
    · exact .inl k
    · exact .inr (.inl k)
    · exact .inr (.inr ⟨x, B, o, ct, sz, trivial, k⟩)
  · refine ⟨frame.os, frame.tape, frame.output, frame.size, fun b hb hk => frame.block b hb ?_⟩
    rintro ⟨x, B, o, ct, sz, _, k⟩
    exact hk ⟨x, B, o, ct, sz, trivial, k⟩
  · rintro b ⟨r, B, o, ct, sz, _, hr, hO, hp⟩
    rcases look r B hr with ⟨q, hf⟩ | ⟨hf, hm, rfl⟩ | ⟨hf, hm, h1⟩
    · have hm0 := findO_mem hf
      rw [ρnew r q B hf] at hp
      rcases newAt r q B b _ _ _ hm0 hO hp with k | ⟨x, B', o', ct', sz', _, k⟩
      · exact .inl k
      · exact .inr ⟨x, B', o', ct', sz', trivial, k⟩
    · cases hO
    · rw [ρold r hf hm] at hp
      exact .inr ⟨r, B, o, ct, sz, trivial, h1, hO, hp⟩
end
end Go.Abs
