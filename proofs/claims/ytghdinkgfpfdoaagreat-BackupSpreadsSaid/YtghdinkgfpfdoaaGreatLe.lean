import Derived.Test.YtghdinkgfpfdoaaGreatLd
/- Functions that work on blocks of their callers': their specifications. -/
namespace Go.Abs
open Go.RowKit

/-- Arguments: data; a variable's address; a whole slice of one's own; a closure over variables. -/
inductive GA where
  | imm (a : SA) | var (τ : Ty) | arr (τ : Ty) | cloV (fn : FuncId) (caps : List Ty)
/-- A cell of a result: data, or a slice of one's own. -/
inductive OC where
  | dat (τ : Ty) | arr (τ : Ty)
/-- A result: data; a cell; a struct of cells. -/
inductive OR where
  | dat (b : Bool) (τ : Ty) | cell (c : OC) | st (cs : List OC)
/-- Results: data; the address of a new variable; a new slice; data with slices of one's own. -/
inductive GR where
  | imm (bs : List Bool) | newv (τ : Ty) | newa (τ : Ty) | own (l : List OR)

structure GSpec where
  key : List FuncId
  args : List GA
  ts : List Ty
  res : GR
  keeps : List Bool
  rs : List Ty
  F : els ts → Option (els rs)

def varsK : List Ty → List (Bool × Ty) → List (Bool × Ty)
  | [], l => l
  | τ :: τs, l => (true, τ) :: varsK τs l
def kindsG : List GA → List (Bool × Ty)
  | [] => []
  | .imm _ :: l => kindsG l
  | .var τ :: l => (true, τ) :: kindsG l
  | .arr τ :: l => (false, τ) :: kindsG l
  | .cloV _ τs :: l => varsK τs (kindsG l)

def conB : Bool × Ty → Dyn → Option Block
  | (true, τ), ⟨τ', x⟩ => (Ty.cast τ' τ x).map fun x => .vars ((encC τ x).map .pd)
  | (false, τ), ⟨τ', x⟩ => (Ty.cast τ' (.sl τ) x).map fun x => .arr τ.sz (List.map (encC τ) x)
def conT : Bool × Ty → Dyn → Option TB
  | (true, τ), ⟨τ', x⟩ => (Ty.cast τ' τ x).map fun x => .vars (explode τ x)
  | (false, τ), ⟨τ', x⟩ => (Ty.cast τ' (.sl τ) x).map fun x => .arr τ x
theorem conT_den (k : Bool × Ty) (d : Dyn) : conB k d = (conT k d).map TB.den := by
  obtain ⟨b, τ⟩ := k
  obtain ⟨τ', x⟩ := d
  cases b
  · simp only [conB, conT, Option.map_map]; rfl
  · simp only [conB, conT, Option.map_map]
    congr 1
    funext y
    simp only [Function.comp, TB.den, TV.dens_eq, explode_den]

def keptG {β : Type} (con : Bool × Ty → Dyn → Option β) : List (Bool × Ty) → List Bool → List Ref → List Dyn → Option (List (Ref × β))
  | [], [], [], [] => some []
  | k :: ks, b :: bs, r :: rs, ds => match b with
    | true => match ds with
      | d :: ds => match con k d, keptG con ks bs rs ds with
        | some B, some l => some ((r, B) :: l)
        | _, _ => none
      | [] => none
    | false => keptG con ks bs rs ds
  | _, _, _, _ => none
theorem keptG_den : ∀ (ks : List (Bool × Ty)) (bs : List Bool) (rs : List Ref) (ds : List Dyn), keptG conB ks bs rs ds = (keptG conT ks bs rs ds).map (·.map fun q => (q.1, q.2.den))
  | [], [], [], [] => rfl
  | [], [], [], _ :: _ => rfl
  | [], [], _ :: _, _ => rfl
  | [], _ :: _, _, _ => rfl
  | _ :: _, [], _, _ => rfl
  | _ :: _, _ :: _, [], _ => rfl
  | k :: ks, b :: bs, r :: rs, ds => by
    cases b with
    | false => simp only [keptG]; exact keptG_den ks bs rs ds
    | true =>
      cases ds with
      | nil => rfl
      | cons d ds =>
        simp only [keptG, conT_den, keptG_den ks bs rs ds]
        cases conT k d with
        | none => rfl
        | some B => cases keptG conT ks bs rs ds <;> rfl

/-- How values are made. -/
structure VK (α : Type) where
  val : List (Bool × Dyn) → α
  ptr : Ref → α
  sl : Ref → Nat → Nat → α
  leaf : Dyn → α
  agg : List α → α
  tup : List α → α
def vkA : VK AV := ⟨fun ds => .pd (outPD ds), fun r => .ptr r 0, fun r sz n => .sl r sz 0 n, fun d => .pd (encL d.1 d.2), .agg, .tup⟩
def vkT : VK TV := ⟨outTV, fun r => .ptr r 0, .slw, fun d => .dat d.1 d.2, .agg, .tup⟩

section
variable {α β : Type} (con : Bool × Ty → Dyn → Option β) (K : VK α) (d : Nat)
/-- Values, new blocks, what is left, and how many names are in use. -/
def outCs : List OC → Nat → List Dyn → Option (List α × List (Ref × β) × List Dyn × Nat)
  | [], i, ds => some ([], [], ds, i)
  | .dat τ :: cs, i, ds => match ds with
    | ⟨τ', x⟩ :: ds => match Ty.cast τ' τ x, outCs cs i ds with
      | some x, some (vs, N, ds, j) => some (K.leaf ⟨τ, x⟩ :: vs, N, ds, j)
      | _, _ => none
    | [] => none
  | .arr τ :: cs, i, ds => match ds with
    | ⟨τ', x⟩ :: ds => match Ty.cast τ' (.sl τ) x, con (false, τ) ⟨τ', x⟩, outCs cs (i + 1) ds with
      | some x, some B, some (vs, N, ds, j) => some (K.sl (.loc d i) τ.sz (List.length x) :: vs, (.loc d i, B) :: N, ds, j)
      | _, _, _ => none
    | [] => none
def outRs : List OR → Nat → List Dyn → Option (List α × List (Ref × β) × List Dyn × Nat)
  | [], i, ds => some ([], [], ds, i)
  | .dat b _ :: l, i, ds => match ds with
    | x :: ds => match outRs l i ds with
      | some (vs, N, ds, j) => some (K.val [(b, x)] :: vs, N, ds, j)
      | none => none
    | [] => none
  | .cell c :: l, i, ds => match outCs con K d [c] i ds with
    | some (us, N1, ds, i) => match outRs l i ds with
      | some (vs, N, ds, j) => some (us ++ vs, N1 ++ N, ds, j)
      | none => none
    | none => none
  | .st cs :: l, i, ds => match outCs con K d cs i ds with
    | some (us, N1, ds, i) => match outRs l i ds with
      | some (vs, N, ds, j) => some (K.agg us :: vs, N1 ++ N, ds, j)
      | none => none
    | none => none
end
def oneOf {α : Type} (K : VK α) : List α → α
  | [v] => v
  | vs => K.tup vs

/-- The value, the new blocks, and what is left. -/
def outG {α β : Type} (con : Bool × Ty → Dyn → Option β) (K : VK α) (d : Nat) : GR → List Dyn → Option (α × List (Ref × β) × List Dyn)
  | .imm bs, ds => some (K.val (tagged bs (ds.take bs.length)), [], ds.drop bs.length)
  | .newv τ, ds => match ds with
    | x :: ds => match con (true, τ) x with
      | some B => some (K.ptr (.loc d 0), [(.loc d 0, B)], ds)
      | none => none
    | [] => none
  | .newa τ, ds => match ds with
    | ⟨τ', x⟩ :: ds => match Ty.cast τ' (.sl τ) x, con (false, τ) ⟨τ', x⟩ with
      | some x, some B => some (K.sl (.loc d 0) τ.sz (List.length x), [(.loc d 0, B)], ds)
      | _, _ => none
    | [] => none
  | .own l, ds => match outRs con K d l 0 ds with
    | some (vs, N, ds, j) => match Nat.ble j 4 with
      | true => some (oneOf K vs, N, ds)
      | false => none
    | none => none

def overB {β : Type} (dead : β) (N : List (Ref × β)) (R : List Ref) (blk : Ref → Option β) : Ref → Option β := fun r => match findD N r with
  | some B => some B
  | none => match memR r R with
    | true => some dead
    | false => blk r

/-- Variables that a closure holds. -/
def capV1 (blk : Blk) (τ : Ty) : AV → Option (Dyn × Ref)
  | .ptr r off => match off with
    | 0 => match blk r with
      | some (.vars cs) => (cs.mapM (view false blk 8)).bind fun ds => (allOf (decC τ ds)).map fun x => (⟨τ, x⟩, r)
      | _ => none
    | _ + 1 => none
  | _ => none
def capVs (blk : Blk) : List Ty → List AV → Option (List Dyn × List Ref)
  | [], [] => some ([], [])
  | τ :: τs, v :: vs => match capV1 blk τ v, capVs blk τs vs with
    | some (d, r), some (ds, rs) => some (d :: ds, r :: rs)
    | _, _ => none
  | _, _ => none
def capG1 (blk : Blk) : GA → AV → Option (List Dyn × List Ref)
  | .imm a => fun v => (view false blk 8 v).bind fun d => (a.dec d).map fun ds => (ds, [])
  | .var τ => fun v => match v with
    | .ptr r off => match off with
      | 0 => match blk r with
        | some (.vars cs) => (cs.mapM (view false blk 8)).bind fun ds => (allOf (decC τ ds)).map fun x => ([⟨τ, x⟩], [r])
        | _ => none
      | _ + 1 => none
    | _ => none
  | .arr τ => fun v => match v with
    | .sl r sz off n => match blk r with
      | some (.arr sz' rows) => if sz = τ.sz ∧ sz' = τ.sz ∧ off = 0 ∧ n ≤ rows.length then ((rows.take n).mapM fun row => allOf (decC τ row)).map fun xs => ([⟨.sl τ, xs⟩], [r]) else none
      | _ => none
    | _ => none
  | .cloV fn τs => fun v => match v with
    | .clo (.func f) [] bs => match Nat.beq fn f with
      | true => capVs blk τs bs
      | false => none
    | _ => none
def capGs (blk : Blk) : List GA → List AV → Option (List Dyn × List Ref)
  | [], [] => some ([], [])
  | a :: as, v :: vs => match capG1 blk a v, capGs blk as vs with
    | some (ds, rs), some (es, ss) => some (ds ++ es, rs ++ ss)
    | _, _ => none
  | _, _ => none

def distR : List Ref → Bool
  | [] => true
  | r :: l => !memR r l && distR l

def GSpec.lift (s : GSpec) (d : Nat) (args : List AV) (blk : Blk) : Option (AV × Blk) := match capGs blk s.args args with
  | none => none
  | some (ds, refs) => match distR refs, pack s.ts ds with
    | true, some x => match s.F x with
      | some y => match outG conB vkA d s.res (unpack s.rs y) with
        | some (v, n1, rest) => match keptG conB (kindsG s.args) s.keeps refs rest with
          | some n2 => some (v, overB .dead (n1 ++ n2) refs blk)
          | none => none
        | none => none
      | none => none
    | _, _ => none

def hkAV : AV → List FuncId
  | .clo (.func f) _ _ => [f]
  | _ => []
def keyAV : List AV → List FuncId
  | [] => []
  | v :: l => hkAV v ++ keyAV l
theorem hkAV_den (v : TV) : hkAV v.den = hkTV v := by
  cases v <;> try rfl
  rename_i f a b
  cases f <;> rfl
theorem keyAV_den : ∀ vs : List TV, keyAV (vs.map TV.den) = keyTV vs
  | [] => rfl
  | v :: vs => by simp only [List.map_cons, keyAV, keyTV, hkAV_den, keyAV_den vs]

def findG : List GSpec → List FuncId → Option GSpec
  | [], _ => none
  | s :: l, k => match sameKey s.key k with
    | true => some s
    | false => findG l k
theorem findG_mem : ∀ {l : List GSpec} {k : List FuncId} {s : GSpec}, findG l k = some s → s ∈ l
  | [], _, _, h => by cases h
  | s0 :: l, k, s, h => by
    simp only [findG] at h
    split at h
    · cases h; simp
    · simp [findG_mem h]
theorem findP_mem : ∀ {l : List PSpec} {k : List FuncId} {s : PSpec}, findP l k = some s → s ∈ l
  | [], _, _, h => by cases h
  | s0 :: l, k, s, h => by
    simp only [findP] at h
    split at h
    · cases h; simp
    · simp [findP_mem h]

def liftGs (l : List GSpec) (d : Nat) (args : List AV) (blk : Blk) : Option (AV × Blk) := match findG l (keyAV args) with
  | some s => s.lift d args blk
  | none => none

/-! ### .. in the run -/
def capVT1 (blk : TBlk) (τ : Ty) : TV → Option (Dyn × Ref)
  | .ptr r off => match off with
    | 0 => match blk r with
      | some (.vars cs) => match capC τ cs with
        | some (x, rest) => match rest, τ.ok with
          | [], true => some (⟨τ, x⟩, r)
          | _, _ => none
        | none => none
      | _ => none
    | _ + 1 => none
  | _ => none
def capVTs (blk : TBlk) : List Ty → List TV → Option (List Dyn × List Ref)
  | [], [] => some ([], [])
  | τ :: τs, v :: vs => match capVT1 blk τ v, capVTs blk τs vs with
    | some (d, r), some (ds, rs) => some (d :: ds, r :: rs)
    | _, _ => none
  | _, _ => none
def capT1 (blk : TBlk) : GA → TV → Option (List Dyn × List Ref)
  | .imm a => fun v => (a.cap false blk v).map fun ds => (ds, [])
  | .var τ => fun v => match v with
    | .ptr r off => match off with
      | 0 => match blk r with
        | some (.vars cs) => match capC τ cs with
          | some (x, rest) => match rest, τ.ok with
            | [], true => some ([⟨τ, x⟩], [r])
            | _, _ => none
          | none => none
        | _ => none
      | _ + 1 => none
    | _ => none
  | .arr τ => fun v => match v with
    | .slw r sz _ => match blk r with
      | some (.arr τ' rows) => match Nat.beq sz τ.sz && τ.ok, Ty.cast (.sl τ') (.sl τ) rows with
        | true, some rows => some ([⟨.sl τ, rows⟩], [r])
        | _, _ => none
      | _ => none
    | .sl r sz off n => match blk r with
      | some (.arr τ' rows) => match Nat.beq sz τ.sz && τ.ok && Nat.beq off 0, Ty.cast (.sl τ') (.sl τ) rows with
        | true, some rows => guardT (n ≤ List.length rows) (some ([⟨.sl τ, List.take n rows⟩], [r]))
        | _, _ => none
      | _ => none
    | _ => none
  | .cloV fn τs => fun v => match v with
    | .clo (.func f) [] bs => match Nat.beq fn f with
      | true => capVTs blk τs bs
      | false => none
    | _ => none
def capTs (blk : TBlk) : List GA → List TV → Option (List Dyn × List Ref)
  | [], [] => some ([], [])
  | a :: as, v :: vs => match capT1 blk a v, capTs blk as vs with
    | some (ds, rs), some (es, ss) => some (ds ++ es, rs ++ ss)
    | _, _ => none
  | _, _ => none

theorem decRows_enc {τ : Ty} (ho : τ.ok = true) (xs : List τ.el) : (xs.map (encC τ)).mapM (fun row => allOf (decC τ row)) = some xs :=
  mapM_some_map (f := fun row => allOf (decC τ row)) (decAll ho) xs

theorem capVT1_ok {blk : TBlk} {τ : Ty} {v : TV} {q : Dyn × Ref} (h : capVT1 blk τ v = some q) : capV1 (denB blk) τ v.den = some q := by
  cases v <;> simp only [capVT1, reduceCtorEq] at h
  rename_i r off
  cases off <;> simp only [reduceCtorEq] at h
  split at h
  · rename_i cs hr
    split at h
    · rename_i x rest hx
      split at h
      · rename_i ho
        cases h
        have hb : denB blk r = some (.vars (cs.map TV.den)) := by simp only [denB, hr, Option.map_some, TB.den, TV.dens_eq]
        simp only [TV.den, capV1, hb, capAll hx, Option.bind_some, decAll ho, Option.map_some]
      · cases h
    · cases h
  · cases h
theorem capVTs_ok {blk : TBlk} : ∀ {τs : List Ty} {vs : List TV} {q : List Dyn × List Ref}, capVTs blk τs vs = some q → capVs (denB blk) τs (vs.map TV.den) = some q
  | [], [], q, h => h
  | [], _ :: _, _, h => by cases h
  | _ :: _, [], _, h => by cases h
  | τ :: τs, v :: vs, q, h => by
    simp only [capVTs] at h
    split at h
    · rename_i h1 h2
      cases h
      simp only [List.map_cons, capVs, capVT1_ok h1, capVTs_ok h2]
    · cases h

theorem capT1_ok {blk : TBlk} {a : GA} {v : TV} {q : List Dyn × List Ref} (h : capT1 blk a v = some q) (hv : okV (lenOk blk) v) : capG1 (denB blk) a v.den = some q := by
  cases a with
  | imm a =>
    simp only [capT1, Option.map_eq_some_iff] at h
    obtain ⟨ds, h, rfl⟩ := h
    obtain ⟨d, h1, h2⟩ := SA.cap_ok h hv 5
    simp only [capG1, h1, Option.bind_some, h2, Option.map_some]
  | var τ =>
    cases v <;> simp only [capT1, reduceCtorEq] at h
    rename_i r off
    cases off <;> simp only [reduceCtorEq] at h
    split at h
    · rename_i cs hr
      split at h
      · rename_i x rest hx
        split at h
        · rename_i ho
          cases h
          have hb : denB blk r = some (.vars (cs.map TV.den)) := by simp only [denB, hr, Option.map_some, TB.den, TV.dens_eq]
          simp only [TV.den, capG1, hb, capAll hx, Option.bind_some, decAll ho, Option.map_some]
        · cases h
      · cases h
    · cases h
  | arr τ =>
    cases v <;> simp only [capT1, reduceCtorEq] at h
    · rename_i r sz n
      split at h
      · rename_i τ' rows hr
        split at h
        · rename_i rows2 hb hc
          cases h
          simp only [Bool.and_eq_true] at hb
          simp only [okV] at hv
          have hn := hv.2 τ' rows (.inl hr)
          obtain ⟨c1, c2, c3⟩ := castSl hc
          subst c3
          have hblk : denB blk r = some (.arr τ'.sz (rows.map (encC τ'))) := by simp only [denB, hr, Option.map_some, TB.den]
          simp only [TV.den, capG1, hblk, List.length_map]
          rw [if_pos ⟨Nat.eq_of_beq_eq_true hb.1, by trivial, by trivial, Nat.le_of_eq hn⟩, List.take_of_length_le (by simp; omega), ← c1, decRows_enc hb.2]; rfl
        · cases h
      · cases h
    · rename_i r sz off n
      split at h
      · rename_i τ' rows hr
        split at h
        · rename_i rows2 hb hc
          replace h := guardT_some h
          obtain ⟨hn, h⟩ := h
          cases h
          simp only [Bool.and_eq_true] at hb
          obtain ⟨c1, c2, c3⟩ := castSl hc
          subst c3
          have hblk : denB blk r = some (.arr τ'.sz (rows.map (encC τ'))) := by simp only [denB, hr, Option.map_some, TB.den]
          simp only [TV.den, capG1, hblk, List.length_map]
          rw [if_pos ⟨Nat.eq_of_beq_eq_true hb.1.1, by trivial, Nat.eq_of_beq_eq_true hb.2, by omega⟩, ← c1, ← List.map_take, decRows_enc hb.1.2]; rfl
        · cases h
      · cases h
  | cloV fn τs =>
    simp only [capT1] at h
    split at h
    · rename_i f bs
      split at h
      · rename_i hf
        simp only [TV.den, TV.dens_eq, List.map_nil, capG1, hf, capVTs_ok h]
      · cases h
    · cases h

theorem capTs_ok {blk : TBlk} : ∀ {as : List GA} {vs : List TV} {q : List Dyn × List Ref}, capTs blk as vs = some q → (∀ v ∈ vs, okV (lenOk blk) v) → capGs (denB blk) as (vs.map TV.den) = some q
  | [], [], q, h, _ => h
  | [], _ :: _, _, h, _ => by cases h
  | _ :: _, [], _, h, _ => by cases h
  | a :: as, v :: vs, q, h, hv => by
    simp only [capTs] at h
    split at h
    · rename_i ds rs es ss h1 h2
      cases h
      simp only [List.map_cons, capGs, capT1_ok h1 (hv v (by simp)), capTs_ok h2 (fun u hu => hv u (by simp [hu]))]
    · cases h

/-- What has to be seen of the lengths: nothing where no slice is kept. -/
def lensT {R : Type} : List (Bool × Ty) → List Bool → List Ref → TBlk → List (Ref × TB) → Option R → Option R
  | (true, _) :: ks, _ :: bs, _ :: rs, blk, N, k => lensT ks bs rs blk N k
  | (false, _) :: ks, false :: bs, _ :: rs, blk, N, k => lensT ks bs rs blk N k
  | (false, _) :: ks, true :: bs, r :: rs, blk, N, k => match blk r, findD N r with
    | some (.arr _ old), some (.arr _ new) => guardT (new.length = old.length) (lensT ks bs rs blk N k)
    | _, _ => none
  | _, _, _, _, _, k => k
theorem lensT_some {R : Type} {x : R} {blk : TBlk} {N : List (Ref × TB)} {k : Option R} : ∀ {ks : List (Bool × Ty)} {bs : List Bool} {rs : List Ref}, lensT ks bs rs blk N k = some x → k = some x ∧
    ∀ (i : Nat) (τ : Ty) (r : Ref), ks[i]? = some (false, τ) → bs[i]? = some true → rs[i]? = some r → ∃ τ1 old τ2 new, blk r = some (.arr τ1 old) ∧ findD N r = some (.arr τ2 new) ∧ new.length = old.length
  | [], _, _, h => ⟨by simpa [lensT] using h, by simp⟩
  | (true, τ) :: ks, [], rs, h => ⟨by simpa [lensT] using h, by simp⟩
  | (true, τ) :: ks, b :: bs, [], h => ⟨by simpa [lensT] using h, by simp⟩
  | (false, τ) :: ks, [], rs, h => ⟨by simpa [lensT] using h, by simp⟩
  | (false, τ) :: ks, false :: bs, [], h => ⟨by simpa [lensT] using h, by simp⟩
  | (false, τ) :: ks, true :: bs, [], h => ⟨by simpa [lensT] using h, by simp⟩
  | (true, τ) :: ks, b :: bs, r :: rs, h => by
    simp only [lensT] at h
    obtain ⟨h1, h2⟩ := lensT_some h
    refine ⟨h1, fun i τ' r' e1 e2 e3 => ?_⟩
    cases i with
    | zero => simp at e1
    | succ i => exact h2 i τ' r' (by simpa using e1) (by simpa using e2) (by simpa using e3)
  | (false, τ) :: ks, false :: bs, r :: rs, h => by
    simp only [lensT] at h
    obtain ⟨h1, h2⟩ := lensT_some h
    refine ⟨h1, fun i τ' r' e1 e2 e3 => ?_⟩
    cases i with
    | zero => simp at e2
    | succ i => exact h2 i τ' r' (by simpa using e1) (by simpa using e2) (by simpa using e3)
  | (false, τ) :: ks, true :: bs, r :: rs, h => by
    simp only [lensT] at h
    split at h
    · rename_i τ1 old τ2 new hb hf
      replace h := guardT_some h
      obtain ⟨hg, h⟩ := h
      obtain ⟨h1, h2⟩ := lensT_some h
      refine ⟨h1, fun i τ' r' e1 e2 e3 => ?_⟩
      cases i with
      | zero => simp at e3; subst e3; exact ⟨τ1, old, τ2, new, hb, hf, hg⟩
      | succ i => exact h2 i τ' r' (by simpa using e1) (by simpa using e2) (by simpa using e3)
    · cases h

section
variable {R : Type}

/-! The same with what comes after them. -/
def capT1K (blk : TBlk) : GA → TV → (List Dyn → List Ref → Option R) → Option R
  | .imm a, v, K => a.capK false blk v fun ds => K ds []
  | .var τ, v, K => match capT1 blk (.var τ) v with
    | some (ds, rs) => K ds rs
    | none => none
  | .arr τ, v, K => match v with
    | .slw r sz n => match capT1 blk (.arr τ) (.slw r sz n) with
      | some (ds, rs) => K ds rs
      | none => none
    | .sl r sz off n => match blk r with
      | some (.arr τ' rows) => match Nat.beq sz τ.sz && τ.ok && Nat.beq off 0, Ty.cast (.sl τ') (.sl τ) rows with
        | true, some rows => guardT (n ≤ List.length rows) (K [⟨.sl τ, List.take n rows⟩] [r])
        | _, _ => none
      | _ => none
    | _ => none
  | .cloV fn τs, v, K => match capT1 blk (.cloV fn τs) v with
    | some (ds, rs) => K ds rs
    | none => none
theorem capT1K_some {blk : TBlk} {a : GA} {v : TV} {K : List Dyn → List Ref → Option R} {x : R} (h : capT1K blk a v K = some x) : ∃ ds rs, capT1 blk a v = some (ds, rs) ∧ K ds rs = some x := by
  cases a with
  | imm a =>
    obtain ⟨xs, hx, h⟩ := SA.capK_some h
    exact ⟨xs, [], by simp only [capT1, hx, Option.map_some], h⟩
  | var τ =>
    simp only [capT1K] at h
    split at h
    · rename_i e; exact ⟨_, _, e, h⟩
    · cases h
  | cloV fn τs =>
    simp only [capT1K] at h
    split at h
    · rename_i e; exact ⟨_, _, e, h⟩
    · cases h
  | arr τ =>
    simp only [capT1K] at h
    split at h
    · split at h
      · rename_i e; exact ⟨_, _, e, h⟩
      · cases h
    · rename_i r sz off n
      split at h
      · rename_i τ' rows hr
        split at h
        · rename_i rows2 hb hc
          replace h := guardT_some h
          obtain ⟨hn, h⟩ := h
          exact ⟨_, _, by simp only [capT1, hr, hb, hc]; rw [guardT_pos hn], h⟩
        · cases h
      · cases h
    · cases h
def capTsK (blk : TBlk) : List GA → List TV → (List Dyn → List Ref → Option R) → Option R
  | [], [], K => K [] []
  | a :: as, v :: vs, K => capT1K blk a v fun ds rs => capTsK blk as vs fun es ss => K (ds ++ es) (rs ++ ss)
  | _, _, _ => none
theorem capTsK_some {blk : TBlk} {x : R} : ∀ {as : List GA} {vs : List TV} {K : List Dyn → List Ref → Option R}, capTsK blk as vs K = some x → ∃ ds rs, capTs blk as vs = some (ds, rs) ∧ K ds rs = some x
  | [], [], K, h => ⟨[], [], rfl, h⟩
  | [], _ :: _, K, h => by cases h
  | _ :: _, [], K, h => by cases h
  | a :: as, v :: vs, K, h => by
    simp only [capTsK] at h
    obtain ⟨ds, rs, h1, h⟩ := capT1K_some h
    obtain ⟨es, ss, h2, h⟩ := capTsK_some h
    exact ⟨_, _, by simp only [capTs, h1, h2], h⟩

def callGT (l : List GSpec) (d : Nat) (blk : TBlk) (args : List TV) (K : TV → TBlk → Option R) : Option R := match findG l (keyTV args) with
  | none => none
  | some s => capTsK blk s.args args fun ds refs => match distR refs with
      | false => none
      | true => (pack s.ts ds).bind fun x => (s.F x).bind fun y => (outG conT vkT d s.res (unpack s.rs y)).bind fun q => (keptG conT (kindsG s.args) s.keeps refs q.2.2).bind fun n2 =>
        lensT (kindsG s.args) s.keeps refs blk n2 (K q.1 (overB .dead (q.2.1 ++ n2) refs blk))

theorem findD_den (N : List (Ref × TB)) (r : Ref) : findD (N.map fun q => (q.1, q.2.den)) r = (findD N r).map TB.den := by
  induction N with
  | nil => rfl
  | cons q N ih =>
    obtain ⟨r0, B⟩ := q
    simp only [List.map_cons, findD]
    split
    · rfl
    · exact ih
theorem overB_den (N : List (Ref × TB)) (R : List Ref) (blk : TBlk) : denB (overB .dead N R blk) = overB .dead (N.map fun q => (q.1, q.2.den)) R (denB blk) := by
  funext r
  unfold denB overB
  rw [findD_den]
  cases findD N r with
  | some B => rfl
  | none => simp only [Option.map_none]; split <;> rfl

theorem outCs_den (d : Nat) : ∀ (cs : List OC) (i : Nat) (ds : List Dyn), outCs conB vkA d cs i ds = (outCs conT vkT d cs i ds).map fun q => (q.1.map TV.den, q.2.1.map (fun q => (q.1, q.2.den)), q.2.2)
  | [], i, ds => rfl
  | .dat τ :: cs, i, ds => by
    cases ds with
    | nil => rfl
    | cons x ds =>
      obtain ⟨τ', x⟩ := x
      simp only [outCs, outCs_den d cs i ds]
      cases Ty.cast τ' τ x with
      | none => rfl
      | some x =>
        cases outCs conT vkT d cs i ds with
        | none => rfl
        | some q => rfl
  | .arr τ :: cs, i, ds => by
    cases ds with
    | nil => rfl
    | cons x ds =>
      obtain ⟨τ', x⟩ := x
      simp only [outCs, conT_den, outCs_den d cs (i + 1) ds]
      cases Ty.cast τ' (.sl τ) x with
      | none => rfl
      | some x =>
        cases conT (false, τ) ⟨τ', _⟩ with
        | none => rfl
        | some B =>
          cases outCs conT vkT d cs (i + 1) ds with
          | none => rfl
          | some q => rfl
theorem outRs_den (d : Nat) : ∀ (l : List OR) (i : Nat) (ds : List Dyn), outRs conB vkA d l i ds = (outRs conT vkT d l i ds).map fun q => (q.1.map TV.den, q.2.1.map (fun q => (q.1, q.2.den)), q.2.2)
  | [], i, ds => rfl
  | .dat b τ :: l, i, ds => by
    cases ds with
    | nil => rfl
    | cons x ds =>
      simp only [outRs, outRs_den d l i ds]
      cases outRs conT vkT d l i ds with
      | none => rfl
      | some q => simp only [Option.map_some, List.map_cons]; congr 2; simp only [vkA, vkT, outTV_den]
  | .cell c :: l, i, ds => by
    simp only [outRs, outCs_den d [c] i ds]
    cases outCs conT vkT d [c] i ds with
    | none => rfl
    | some q =>
      obtain ⟨us, N1, ds, i⟩ := q
      simp only [Option.map_some, outRs_den d l i ds]
      cases outRs conT vkT d l i ds with
      | none => rfl
      | some q => simp only [Option.map_some, List.map_append]
  | .st cs :: l, i, ds => by
    simp only [outRs, outCs_den d cs i ds]
    cases outCs conT vkT d cs i ds with
    | none => rfl
    | some q =>
      obtain ⟨us, N1, ds, i⟩ := q
      simp only [Option.map_some, outRs_den d l i ds]
      cases outRs conT vkT d l i ds with
      | none => rfl
      | some q => simp only [Option.map_some, List.map_append, List.map_cons]; congr 2; simp only [vkA, vkT, TV.den, TV.dens_eq]
theorem oneOf_den (vs : List TV) : oneOf vkA (vs.map TV.den) = (oneOf vkT vs).den := by
  match vs with
  | [] => simp only [List.map_nil, oneOf, vkA, vkT, TV.den, TV.dens_eq]
  | [v] => rfl
  | a :: b :: l => simp only [List.map_cons, oneOf, vkA, vkT, TV.den, TV.dens_eq]

theorem outG_den (d : Nat) (g : GR) (ds : List Dyn) : outG conB vkA d g ds = (outG conT vkT d g ds).map fun q => (q.1.den, q.2.1.map (fun q => (q.1, q.2.den)), q.2.2) := by
  cases g with
  | imm bs => simp only [outG, Option.map_some, vkA, vkT, outTV_den, List.map_nil]
  | newv τ =>
    cases ds with
    | nil => rfl
    | cons x ds =>
      simp only [outG, conT_den]
      cases conT (true, τ) x <;> rfl
  | newa τ =>
    cases ds with
    | nil => rfl
    | cons x ds =>
      obtain ⟨τ', x⟩ := x
      simp only [outG, conT_den]
      cases Ty.cast τ' (.sl τ) x with
      | none => rfl
      | some y => cases conT (false, τ) ⟨τ', x⟩ <;> rfl
  | own l =>
    simp only [outG, outRs_den]
    cases outRs conT vkT d l 0 ds with
    | none => rfl
    | some q =>
      obtain ⟨vs, N, ds, j⟩ := q
      simp only [Option.map_some]
      split
      · simp only [Option.map_some, oneOf_den]
      · rfl

/-- The new names: those from i on, below j, each once. -/
theorem outCs_names {α β : Type} {con : Bool × Ty → Dyn → Option β} {K : VK α} {d : Nat} : ∀ {cs : List OC} {i : Nat} {ds : List Dyn} {vs : List α} {N : List (Ref × β)} {rest : List Dyn} {j : Nat}, outCs con K d cs i ds = some (vs, N, rest, j) →
    i ≤ j ∧ (∀ r B, (r, B) ∈ N → (∃ k, r = .loc d k ∧ i ≤ k ∧ k < j) ∧ ∃ k x, con k x = some B) ∧ ∀ r a b, (r, a) ∈ N → (r, b) ∈ N → a = b
  | [], i, ds, vs, N, rest, j, h => by cases h; exact ⟨Nat.le_refl _, by simp, by simp⟩
  | .dat τ :: cs, i, ds, vs, N, rest, j, h => by
    cases ds with
    | nil => cases h
    | cons x ds =>
      obtain ⟨τ', x⟩ := x
      simp only [outCs] at h
      split at h
      · rename_i h2; cases h; exact outCs_names h2
      · cases h
  | .arr τ :: cs, i, ds, vs, N, rest, j, h => by
    cases ds with
    | nil => cases h
    | cons x ds =>
      obtain ⟨τ', x⟩ := x
      simp only [outCs] at h
      split at h
      · rename_i hB h2
        cases h
        obtain ⟨k1, k2, k3⟩ := outCs_names h2
        have no : ∀ b, (Ref.loc d i, b) ∈ _ → False := fun b hb => by
          obtain ⟨k, e, hk, _⟩ := (k2 _ b hb).1
          cases e; omega
        refine ⟨by omega, fun r B hm => ?_, fun r a b ha hb => ?_⟩
        · rcases List.mem_cons.1 hm with e | hm
          · cases e; exact ⟨⟨i, rfl, Nat.le_refl _, by omega⟩, _, _, hB⟩
          · obtain ⟨⟨k, e, h1, h2⟩, h3⟩ := k2 r B hm
            exact ⟨⟨k, e, by omega, h2⟩, h3⟩
        · rcases List.mem_cons.1 ha with e | ha
          · rcases List.mem_cons.1 hb with e' | hb
            · cases e; cases e'; rfl
            · cases e; exact (no _ hb).elim
          · rcases List.mem_cons.1 hb with e' | hb
            · cases e'; exact (no _ ha).elim
            · exact k3 r a b ha hb
      · cases h

theorem app_names {β : Type} {con : Bool × Ty → Dyn → Option β} {d i m j : Nat} {N1 N : List (Ref × β)} (h1 : i ≤ m) (h2 : m ≤ j)
    (k1 : ∀ r B, (r, B) ∈ N1 → (∃ k, r = Ref.loc d k ∧ i ≤ k ∧ k < m) ∧ ∃ k x, con k x = some B) (k2 : ∀ r B, (r, B) ∈ N → (∃ k, r = Ref.loc d k ∧ m ≤ k ∧ k < j) ∧ ∃ k x, con k x = some B)
    (q1 : ∀ r a b, (r, a) ∈ N1 → (r, b) ∈ N1 → a = b) (q2 : ∀ r a b, (r, a) ∈ N → (r, b) ∈ N → a = b) :
    (∀ r B, (r, B) ∈ N1 ++ N → (∃ k, r = .loc d k ∧ i ≤ k ∧ k < j) ∧ ∃ k x, con k x = some B) ∧ ∀ r a b, (r, a) ∈ N1 ++ N → (r, b) ∈ N1 ++ N → a = b := by
  have no : ∀ r a b, (r, a) ∈ N1 → (r, b) ∈ N → False := by
    intro r a b ha hb
    obtain ⟨⟨k, rfl, _, g⟩, _⟩ := k1 r a ha
    obtain ⟨⟨k', e, g', _⟩, _⟩ := k2 _ b hb
    cases e; omega
  refine ⟨fun r B hm => ?_, fun r a b ha hb => ?_⟩
  · rcases List.mem_append.1 hm with hm | hm
    · obtain ⟨⟨k, e, g1, g2⟩, g⟩ := k1 r B hm; exact ⟨⟨k, e, g1, by omega⟩, g⟩
    · obtain ⟨⟨k, e, g1, g2⟩, g⟩ := k2 r B hm; exact ⟨⟨k, e, by omega, g2⟩, g⟩
  · rcases List.mem_append.1 ha with ha | ha
    · rcases List.mem_append.1 hb with hb | hb
      · exact q1 r a b ha hb
      · exact (no r a b ha hb).elim
    · rcases List.mem_append.1 hb with hb | hb
      · exact (no r b a hb ha).elim
      · exact q2 r a b ha hb

theorem outRs_names {α β : Type} {con : Bool × Ty → Dyn → Option β} {K : VK α} {d : Nat} : ∀ {l : List OR} {i : Nat} {ds : List Dyn} {vs : List α} {N : List (Ref × β)} {rest : List Dyn} {j : Nat}, outRs con K d l i ds = some (vs, N, rest, j) →
    i ≤ j ∧ (∀ r B, (r, B) ∈ N → (∃ k, r = .loc d k ∧ i ≤ k ∧ k < j) ∧ ∃ k x, con k x = some B) ∧ ∀ r a b, (r, a) ∈ N → (r, b) ∈ N → a = b
  | [], i, ds, vs, N, rest, j, h => by cases h; exact ⟨Nat.le_refl _, by simp, by simp⟩
  | .dat b τ :: l, i, ds, vs, N, rest, j, h => by
    cases ds with
    | nil => cases h
    | cons x ds =>
      simp only [outRs] at h
      split at h
      · rename_i h2; cases h; exact outRs_names h2
      · cases h
  | .cell c :: l, i, ds, vs, N, rest, j, h => by
    simp only [outRs] at h
    split at h
    · rename_i h1
      split at h
      · rename_i h2
        cases h
        obtain ⟨a1, a2, a3⟩ := outCs_names h1
        obtain ⟨b1, b2, b3⟩ := outRs_names h2
        exact ⟨by omega, app_names a1 b1 a2 b2 a3 b3⟩
      · cases h
    · cases h
  | .st cs :: l, i, ds, vs, N, rest, j, h => by
    simp only [outRs] at h
    split at h
    · rename_i h1
      split at h
      · rename_i h2
        cases h
        obtain ⟨a1, a2, a3⟩ := outCs_names h1
        obtain ⟨b1, b2, b3⟩ := outRs_names h2
        exact ⟨by omega, app_names a1 b1 a2 b2 a3 b3⟩
      · cases h
    · cases h

theorem outG_new {α β : Type} {con : Bool × Ty → Dyn → Option β} {K : VK α} {d : Nat} {g : GR} {ds : List Dyn} {v : α} {N : List (Ref × β)} {rest : List Dyn} (h : outG con K d g ds = some (v, N, rest)) :
    (∀ r B, (r, B) ∈ N → (∃ k, r = .loc d k ∧ k < 4) ∧ ∃ k x, con k x = some B) ∧ ∀ r a b, (r, a) ∈ N → (r, b) ∈ N → a = b := by
  cases g with
  | imm bs => simp only [outG, Option.some.injEq, Prod.mk.injEq] at h; obtain ⟨_, rfl, _⟩ := h; simp
  | newv τ =>
    simp only [outG] at h
    split at h
    · split at h
      · rename_i hc
        cases h
        exact ⟨fun r B hm => by simp at hm; obtain ⟨rfl, rfl⟩ := hm; exact ⟨⟨0, rfl, by omega⟩, _, _, hc⟩, fun r a b ha hb => by simp at ha hb; rw [ha.2, hb.2]⟩
      · cases h
    · cases h
  | newa τ =>
    simp only [outG] at h
    split at h
    · split at h
      · rename_i hc
        cases h
        exact ⟨fun r B hm => by simp at hm; obtain ⟨rfl, rfl⟩ := hm; exact ⟨⟨0, rfl, by omega⟩, _, _, hc⟩, fun r a b ha hb => by simp at ha hb; rw [ha.2, hb.2]⟩
      · cases h
    · cases h
  | own l =>
    simp only [outG] at h
    split at h
    · rename_i h2
      split at h
      · rename_i hj
        cases h
        obtain ⟨_, k2, k3⟩ := outRs_names h2
        have := Nat.le_of_ble_eq_true hj
        exact ⟨fun r B hm => by obtain ⟨⟨k, e, _, hk⟩, g⟩ := k2 r B hm; exact ⟨⟨k, e, by omega⟩, g⟩, k3⟩
      · cases h
    · cases h

/-- The slices among the values are those of the new blocks. -/
def ownOk (N : List (Ref × TB)) : TV → Prop := okV fun r n => ∃ τ rows, (r, TB.arr τ rows) ∈ N ∧ n = rows.length
theorem outCs_ok {d : Nat} : ∀ {cs : List OC} {i : Nat} {ds : List Dyn} {vs : List TV} {N : List (Ref × TB)} {rest : List Dyn} {j : Nat}, outCs conT vkT d cs i ds = some (vs, N, rest, j) → ∀ v ∈ vs, ownOk N v
  | [], i, ds, vs, N, rest, j, h => by cases h; simp
  | .dat τ :: cs, i, ds, vs, N, rest, j, h => by
    cases ds with
    | nil => cases h
    | cons x ds =>
      obtain ⟨τ', x⟩ := x
      simp only [outCs] at h
      split at h
      · rename_i h2
        cases h
        intro v hv
        rcases List.mem_cons.1 hv with rfl | hv
        · simp only [ownOk, vkT, okV]
        · exact outCs_ok h2 v hv
      · cases h
  | .arr τ :: cs, i, ds, vs, N, rest, j, h => by
    cases ds with
    | nil => cases h
    | cons x ds =>
      obtain ⟨τ', x⟩ := x
      simp only [outCs] at h
      split at h
      · rename_i hc hB h2
        cases h
        intro v hv
        rcases List.mem_cons.1 hv with rfl | hv
        · simp only [ownOk, vkT, okV]
          simp only [conT, hc, Option.map_some, Option.some.injEq] at hB
          subst hB
          exact ⟨_, _, by simp, rfl⟩
        · exact okV.mono (fun r n ⟨τ, rows, h1, h2⟩ => ⟨τ, rows, by simp [h1], h2⟩) v (outCs_ok h2 v hv)
      · cases h
theorem outRs_ok {d : Nat} : ∀ {l : List OR} {i : Nat} {ds : List Dyn} {vs : List TV} {N : List (Ref × TB)} {rest : List Dyn} {j : Nat}, outRs conT vkT d l i ds = some (vs, N, rest, j) → ∀ v ∈ vs, ownOk N v
  | [], i, ds, vs, N, rest, j, h => by cases h; simp
  | .dat b τ :: l, i, ds, vs, N, rest, j, h => by
    cases ds with
    | nil => cases h
    | cons x ds =>
      simp only [outRs] at h
      split at h
      · rename_i h2
        cases h
        intro v hv
        rcases List.mem_cons.1 hv with rfl | hv
        · exact outTV_ok _ _
        · exact outRs_ok h2 v hv
      · cases h
  | .cell c :: l, i, ds, vs, N, rest, j, h => by
    simp only [outRs] at h
    split at h
    · rename_i h1
      split at h
      · rename_i h2
        cases h
        intro v hv
        rcases List.mem_append.1 hv with hv | hv
        · exact okV.mono (fun r n ⟨τ, rows, h1, h2⟩ => ⟨τ, rows, by simp [h1], h2⟩) v (outCs_ok h1 v hv)
        · exact okV.mono (fun r n ⟨τ, rows, h1, h2⟩ => ⟨τ, rows, by simp [h1], h2⟩) v (outRs_ok h2 v hv)
      · cases h
    · cases h
  | .st cs :: l, i, ds, vs, N, rest, j, h => by
    simp only [outRs] at h
    split at h
    · rename_i h1
      split at h
      · rename_i h2
        cases h
        intro v hv
        rcases List.mem_cons.1 hv with rfl | hv
        · simp only [ownOk, vkT, okV]
          exact okVs_iff.2 fun c hc => okV.mono (fun r n ⟨τ, rows, h1, h2⟩ => ⟨τ, rows, by simp [h1], h2⟩) c (outCs_ok h1 c hc)
        · exact okV.mono (fun r n ⟨τ, rows, h1, h2⟩ => ⟨τ, rows, by simp [h1], h2⟩) v (outRs_ok h2 v hv)
      · cases h
    · cases h
theorem oneOf_ok {L : Ref → Nat → Prop} {vs : List TV} (h : ∀ v ∈ vs, okV L v) : okV L (oneOf vkT vs) := by
  unfold oneOf
  split
  · exact h _ (by simp)
  · simp only [vkT, okV]; exact okVs_iff.2 h

theorem keptG_mem {β : Type} {con : Bool × Ty → Dyn → Option β} : ∀ {ks : List (Bool × Ty)} {bs : List Bool} {rs : List Ref} {ds : List Dyn} {N : List (Ref × β)}, keptG con ks bs rs ds = some N →
    ∀ r B, (r, B) ∈ N → ∃ (i : Nat) (k : Bool × Ty) (d : Dyn), ks[i]? = some k ∧ bs[i]? = some true ∧ rs[i]? = some r ∧ con k d = some B
  | [], [], [], [], N, h, r, B, hm => by cases h; cases hm
  | [], [], [], _ :: _, _, h, _, _, _ => by cases h
  | [], [], _ :: _, _, _, h, _, _, _ => by cases h
  | [], _ :: _, _, _, _, h, _, _, _ => by cases h
  | _ :: _, [], _, _, _, h, _, _, _ => by cases h
  | _ :: _, _ :: _, [], _, _, h, _, _, _ => by cases h
  | k :: ks, b :: bs, r0 :: rs, ds, N, h, r, B, hm => by
    cases b with
    | false =>
      simp only [keptG] at h
      obtain ⟨i, k', d, h1, h2, h3, h4⟩ := keptG_mem h r B hm
      exact ⟨i + 1, k', d, by simpa using h1, by simpa using h2, by simpa using h3, h4⟩
    | true =>
      cases ds with
      | nil => cases h
      | cons d ds =>
        simp only [keptG] at h
        split at h
        · rename_i B0 l hc hl
          cases h
          rcases List.mem_cons.1 hm with e | hm
          · cases e; exact ⟨0, k, d, rfl, rfl, rfl, hc⟩
          · obtain ⟨i, k', d', h1, h2, h3, h4⟩ := keptG_mem hl r B hm
            exact ⟨i + 1, k', d', by simpa using h1, by simpa using h2, by simpa using h3, h4⟩
        · cases h

theorem conT_vars {k : Bool × Ty} {d : Dyn} {cs : List TV} (h : conT k d = some (.vars cs)) (L : Ref → Nat → Prop) : okVs L cs := by
  obtain ⟨b, τ⟩ := k
  obtain ⟨τ', x⟩ := d
  cases b
  · simp only [conT, Option.map_eq_some_iff, reduceCtorEq, and_false, exists_false] at h
  · simp only [conT, Option.map_eq_some_iff, TB.vars.injEq] at h
    obtain ⟨y, _, rfl⟩ := h
    exact okVs_iff.2 (explode_ok L τ y)

theorem findD_append {α : Type} (a b : List (Ref × α)) (r : Ref) : findD (a ++ b) r = match findD a r with | some q => some q | none => findD b r := by
  induction a with
  | nil => rfl
  | cons q a ih =>
    obtain ⟨r0, q⟩ := q
    simp only [List.cons_append, findD]
    split
    · rfl
    · exact ih

theorem distR_get : ∀ {l : List Ref}, distR l = true → ∀ {i j : Nat} {r : Ref}, l[i]? = some r → l[j]? = some r → i = j
  | [], _, i, j, r, h, _ => by simp at h
  | x :: l, hd, i, j, r, h1, h2 => by
    simp only [distR, Bool.and_eq_true, Bool.not_eq_true'] at hd
    have notin : ∀ k, l[k]? = some x → False := fun k hk => by
      have := memR_iff.2 (List.mem_of_getElem? hk)
      rw [hd.1] at this; cases this
    cases i with
    | zero =>
      cases j with
      | zero => rfl
      | succ j => simp at h1 h2; subst h1; exact (notin j h2).elim
    | succ i =>
      cases j with
      | zero => simp at h1 h2; subst h2; exact (notin i h1).elim
      | succ j => simp at h1 h2; rw [distR_get hd.2 h1 h2]

theorem callGT_ok {l : List GSpec} {d : Nat} {blk : TBlk} {args : List TV} {K : TV → TBlk → Option R} {x : R} (h : callGT l d blk args K = some x) (hf : freshT blk d = true) (ha : ∀ v ∈ args, okV (lenOk blk) v) (hb : blkOk blk) :
    WVR blk (liftGs l d (args.map TV.den) (denB blk)) K x := by
  unfold callGT at h
  split at h
  · cases h
  rename_i s hs
  obtain ⟨ds, refs, hcap, h⟩ := capTsK_some h
  split at h
  · cases h
  rename_i hdist
  replace h := bindT_some h
  obtain ⟨z, hz, h⟩ := h
  replace h := bindT_some h
  obtain ⟨y, hy, h⟩ := h
  replace h := bindT_some h
  obtain ⟨⟨v, n1, rest⟩, ho, h⟩ := h
  replace h := bindT_some h
  obtain ⟨n2, hn2, h⟩ := h
  obtain ⟨h, hlen⟩ := lensT_some h
  simp only at hn2 h
  have hfresh : ∀ k, k < 4 → blk (.loc d k) = none := by
    intro k hk
    unfold freshT at hf; split at hf
    · match k, hk with
      | 0, _ => assumption
      | 1, _ => assumption
      | 2, _ => assumption
      | 3, _ => assumption
    · cases hf
  have hout : liftGs l d (args.map TV.den) (denB blk) = some (v.den, denB (overB .dead (n1 ++ n2) refs blk)) := by
    unfold liftGs
    rw [keyAV_den, hs]
    simp only [GSpec.lift]
    rw [capTs_ok hcap ha]
    simp only [hdist, hz, hy, outG_den, ho, Option.map_some, keptG_den, hn2, overB_den, List.map_append]
  obtain ⟨hn1, hn1u⟩ := outG_new ho
  have hfind : ∀ r B, (r, B) ∈ n1 → findD n1 r = some B := by
    intro r B hm
    cases hfd : findD n1 r with
    | none => exact (findD_none hfd B hm).elim
    | some B' => rw [hn1u r B B' hm (findD_mem hfd)]
  have hL : ∀ q n, lenOk blk q n → lenOk (overB .dead (n1 ++ n2) refs blk) q n := by
    intro q n hq
    have hq1 : findD n1 q = none := by
      cases hfd : findD n1 q with
      | none => rfl
      | some B =>
        obtain ⟨⟨k, rfl, hk⟩, _⟩ := hn1 q B (findD_mem hfd)
        have := hq.1; rw [hfresh k hk] at this; cases this
    have hover : overB .dead (n1 ++ n2) refs blk q = overB .dead n2 refs blk q := by
      unfold overB
      have : findD (n1 ++ n2) q = findD n2 q := by rw [findD_append, hq1]
      rw [this]
    refine ⟨?_, fun τ rows hr => ?_⟩
    · rw [hover]
      unfold overB
      split
      · rfl
      · split
        · rfl
        · exact hq.1
    · rw [hover] at hr
      unfold overB at hr
      cases hfd : findD n2 q with
      | some B =>
        rw [hfd] at hr
        obtain ⟨i, k, dd, e1, e2, e3, e4⟩ := keptG_mem hn2 q B (findD_mem hfd)
        obtain ⟨b, τk⟩ := k
        cases b with
        | true =>
          obtain ⟨τ', xx⟩ := dd
          simp only [conT, Option.map_eq_some_iff] at e4
          obtain ⟨_, _, rfl⟩ := e4
          simp at hr
        | false =>
          obtain ⟨τ1, old, τ2, new, g1, g2, g3⟩ := hlen i τk q e1 e2 e3
          rw [hfd] at g2
          cases g2
          have := hq.2 τ1 old (.inl g1)
          rcases hr with hr | hr <;> cases hr
          omega
      | none =>
        rw [hfd] at hr
        simp only at hr
        split at hr
        · simp at hr
        · exact hq.2 τ rows hr
  have hown : ∀ r n, (∃ τ rows, (r, TB.arr τ rows) ∈ n1 ∧ n = rows.length) → lenOk (overB .dead (n1 ++ n2) refs blk) r n := by
    rintro r n ⟨τ, rows, hm, rfl⟩
    have hov : overB TB.dead (n1 ++ n2) refs blk r = some (.arr τ rows) := by unfold overB; rw [findD_append, hfind r _ hm]
    refine ⟨by rw [hov]; rfl, fun τ2 rows2 hr => ?_⟩
    rw [hov] at hr
    rcases hr with hr | hr <;> cases hr
    rfl
  refine ⟨v, _, hout, ?_, hL, ?_, h⟩
  · cases hres : s.res with
    | imm bs => rw [hres] at ho; simp only [outG, Option.some.injEq, Prod.mk.injEq] at ho; obtain ⟨rfl, _⟩ := ho; exact outTV_ok _ _
    | newv τ =>
      rw [hres] at ho
      simp only [outG] at ho
      split at ho
      · split at ho
        · cases ho; simp only [vkT, okV]
        · cases ho
      · cases ho
    | newa τ =>
      rw [hres] at ho
      simp only [outG] at ho
      split at ho
      · rename_i τ' xx ds'
        split at ho
        · rename_i xx2 B hc hB
          cases ho
          simp only [conT, hc, Option.map_some, Option.some.injEq] at hB
          subst hB
          simp only [vkT, okV]
          exact hown _ _ ⟨_, _, List.mem_singleton.2 rfl, rfl⟩
        · cases ho
      · cases ho
    | own l =>
      rw [hres] at ho
      simp only [outG] at ho
      split at ho
      · rename_i h2
        split at ho
        · cases ho
          exact oneOf_ok fun u hu => okV.mono (hown) u (outRs_ok h2 u hu)
        · cases ho
      · cases ho
  · intro q cs hq
    unfold overB at hq
    rw [findD_append] at hq
    cases hfd : findD n1 q with
    | some B =>
      rw [hfd] at hq; cases hq
      obtain ⟨_, k, dd, hc⟩ := hn1 q _ (findD_mem hfd)
      exact conT_vars hc _
    | none =>
      rw [hfd] at hq
      cases hfd2 : findD n2 q with
      | some B =>
        rw [hfd2] at hq; cases hq
        obtain ⟨i, k, dd, _, _, _, hc⟩ := keptG_mem hn2 q _ (findD_mem hfd2)
        exact conT_vars hc _
      | none =>
        rw [hfd2] at hq
        simp only at hq
        split at hq
        · cases hq
        · exact okVs.mono hL cs (hb q cs hq)
end
end Go.Abs

/- Functions that work on blocks of their callers': the contract out of the code's function. -/
namespace Go.Abs
open Go.RowKit

def qn (i : Nat) : Ref := .out (.loc i 0)
theorem qn_inj {i j : Nat} (h : qn i = qn j) : i = j := by unfold qn at h; cases h; rfl

def entA : SA → List Dyn → Option (TV × List Dyn)
  | .s k, ds => match ds with
    | ⟨τ, x⟩ :: ds => match Ty.cast τ k.ty x with
      | some x => some (entK k x, ds)
      | none => none
    | [] => none
  | .clo fn a b, ds => match entKs a ds with
    | some (xs, ds) => match entKs b ds with
      | some (ys, ds) => some (.clo (.func fn) xs ys, ds)
      | none => none
    | none => none

def entVs : List Ty → Nat → List Dyn → Option (List TV × List (Ref × TB) × List Dyn)
  | [], _, ds => some ([], [], ds)
  | τ :: τs, i, ds => match ds with
    | ⟨τ', x⟩ :: ds => match Ty.cast τ' τ x, entVs τs (i + 1) ds with
      | some x, some (vs, bs, ds) => some (.ptr (qn i) 0 :: vs, (qn i, .vars (explode τ x)) :: bs, ds)
      | _, _ => none
    | [] => none

def entG : List GA → Nat → List Dyn → Option (List TV × List (Ref × TB))
  | [], _, _ => some ([], [])
  | a :: as, i, ds => match a with
    | .imm a => match entA a ds with
      | some (v, ds) => match entG as i ds with
        | some (vs, bs) => some (v :: vs, bs)
        | none => none
      | none => none
    | .var τ => match ds with
      | ⟨τ', x⟩ :: ds => match Ty.cast τ' τ x, entG as (i + 1) ds with
        | some x, some (vs, bs) => some (.ptr (qn i) 0 :: vs, (qn i, .vars (explode τ x)) :: bs)
        | _, _ => none
      | [] => none
    | .arr τ => match ds with
      | ⟨τ', x⟩ :: ds => match Ty.cast τ' (.sl τ) x, entG as (i + 1) ds with
        | some x, some (vs, bs) => some (.slw (qn i) τ.sz (List.length x) :: vs, (qn i, .arr τ x) :: bs)
        | _, _ => none
      | [] => none
    | .cloV fn τs => match entVs τs i ds with
      | some (us, cs, ds) => match entG as (i + τs.length) ds with
        | some (vs, bs) => some (.clo (.func fn) [] us :: vs, cs ++ bs)
        | none => none
      | none => none

def goodG : GA → Bool
  | .imm a => goodA a
  | _ => true

section
variable {I : Nat → Prop} {w : World} {ρ ρq : Ref → Pl} {blk : Blk}

theorem entA_rel {a : SA} (hg : goodA a = true) {d : PD} {xs rest : List Dyn} {v : Value} (h : a.dec d = some xs) (hv : VRel I w d v) :
    ∃ t, entA a (xs ++ rest) = some (t, rest) ∧ ARel I w ρq t.den v ∧ (∀ D, t.den.ok D) ∧ ∀ L, okV L t := by
  cases a with
  | s k =>
    simp only [SA.dec] at h
    split at h
    · rename_i x hx
      cases h
      refine ⟨entK k x, by simp only [List.cons_append, List.nil_append, entA, Ty.cast_self], ?_, fun D => ?_, fun L => ?_⟩
      · rw [entK_den]; simp only [ARel]; exact dec_rel hg hx hv
      · rw [entK_den]; simp only [AV.ok]
      · cases k <;> simp only [entK, okV]
    · cases h
  | clo fn a b =>
    cases d <;> try cases h
    rename_i f as' bs'
    cases f <;> try cases h
    rename_i f
    simp only [SA.dec] at h
    split at h
    · rename_i ys1 ys2 hb hy1 hy2
      cases h
      simp only [goodA, Bool.and_eq_true] at hg
      simp only [VRel] at hv
      obtain ⟨p, q, rfl, r1, r2⟩ := hv
      obtain ⟨ts1, a1, a2, a3, a4⟩ := entKs_rel (ρ := ρq) (rest := ys2 ++ rest) hg.1 hy1 r1
      obtain ⟨ts2, b1, b2, b3, b4⟩ := entKs_rel (ρ := ρq) (rest := rest) hg.2 hy2 r2
      refine ⟨.clo (.func fn) ts1 ts2, by simp only [List.append_assoc, entA, a1, b1], ?_, fun D => ?_, fun L => ?_⟩
      · simp only [TV.den, TV.dens_eq, ARel]; exact ⟨p, q, by rw [Nat.eq_of_beq_eq_true hb], a2, b2⟩
      · simp only [TV.den, TV.dens_eq, AV.ok]; exact ⟨a3 D, b3 D⟩
      · simp only [okV]; exact ⟨okVs_iff.2 (a4 L), okVs_iff.2 (b4 L)⟩
    · cases h

/-- What a block that was handed over is for the function. -/
def EB (I : Nat → Prop) (w : World) (ρq : Ref → Pl) (blk : Blk) (refs : List Ref) (i : Nat) (q : Ref) (B : TB) : Prop :=
  ∃ j r B0, refs[j]? = some r ∧ q = qn (i + j) ∧ blk r = some B0 ∧ B0.owned = true ∧ BRel I w ρq q B.den ∧ B.den.ok (fun _ => False) ∧ ∀ cs, B = .vars cs → ∀ L, okVs L cs

structure ER (I : Nat → Prop) (w : World) (ρq : Ref → Pl) (blk : Blk) (refs : List Ref) (i : Nat) (xs : List Value) (ts : List TV) (bs : List (Ref × TB)) : Prop where
  rel : ARels I w ρq (ts.map TV.den) xs
  ok : ∀ D : Ref → Prop, (∀ q B, (q, B) ∈ bs → D q) → AV.oks D (ts.map TV.den)
  len : ∀ L : Ref → Nat → Prop, (∀ q τ rows, (q, TB.arr τ rows) ∈ bs → L q rows.length) → ∀ t ∈ ts, okV L t
  blocks : ∀ q B, (q, B) ∈ bs → EB I w ρq blk refs i q B
  all : ∀ j r, refs[j]? = some r → ∃ B, (qn (i + j), B) ∈ bs

theorem ER.later {refs : List Ref} {i : Nat} {q : Ref} {B : TB} {r0 : Ref} (h : EB I w ρq blk refs (i + 1) q B) : EB I w ρq blk (r0 :: refs) i q B := by
  obtain ⟨j, r, B0, h1, h2, h3⟩ := h
  exact ⟨j + 1, r, B0, by simpa using h1, by rw [h2]; congr 1; omega, h3⟩

theorem EB.shift {refs rs0 : List Ref} {i : Nat} {q : Ref} {B : TB} (h : EB I w ρq blk refs (i + rs0.length) q B) : EB I w ρq blk (rs0 ++ refs) i q B := by
  obtain ⟨j, r, B0, h1, h2, h3⟩ := h
  exact ⟨rs0.length + j, r, B0, by rw [List.getElem?_append_right (by omega)]; simpa using h1, by rw [h2]; congr 1; omega, h3⟩
theorem EB.front {refs ss : List Ref} {i : Nat} {q : Ref} {B : TB} (h : EB I w ρq blk refs i q B) : EB I w ρq blk (refs ++ ss) i q B := by
  obtain ⟨j, r, B0, h1, h2, h3⟩ := h
  exact ⟨j, r, B0, by rw [List.getElem?_append_left (List.getElem?_eq_some_iff.1 h1).1]; exact h1, h2, h3⟩

/-- Variables that a closure holds. -/
theorem capV1_some {τ : Ty} {v : AV} {d : Dyn} {r : Ref} (h : capV1 blk τ v = some (d, r)) :
    ∃ cs es y, v = .ptr r 0 ∧ blk r = some (.vars cs) ∧ cs.mapM (view false blk 8) = some es ∧ allOf (decC τ es) = some y ∧ d = ⟨τ, y⟩ := by
  cases v <;> simp only [capV1, reduceCtorEq] at h
  rename_i r0 off
  cases off <;> simp only [reduceCtorEq] at h
  split at h
  · rename_i cs hr
    replace h := bindT_some h
    obtain ⟨es, hes, h⟩ := h
    obtain ⟨y, hy, e⟩ := Option.map_eq_some_iff.1 h
    cases e
    exact ⟨cs, es, y, rfl, hr, hes, hy, rfl⟩
  · cases h
theorem capVs_length : ∀ {τs : List Ty} {vs : List AV} {ds : List Dyn} {rs : List Ref}, capVs blk τs vs = some (ds, rs) → vs.length = τs.length ∧ ds.length = τs.length ∧ rs.length = τs.length
  | [], [], ds, rs, h => by cases h; simp
  | [], _ :: _, _, _, h => by cases h
  | _ :: _, [], _, _, h => by cases h
  | τ :: τs, v :: vs, ds, rs, h => by
    simp only [capVs] at h
    split at h
    · rename_i h1 h2
      cases h
      have := capVs_length h2
      simp [this]
    · cases h
theorem entVs_rel (H : ∀ r B, blk r = some B → BRel I w ρ r B) : ∀ {τs : List Ty} {i : Nat} {args : List AV} {ds rest : List Dyn} {refs : List Ref} {xs : List Value}, capVs blk τs args = some (ds, refs) →
    ARels I w ρ args xs → (∀ (j : Nat) (r : Ref), refs[j]? = some r → ρq (qn (i + j)) = ρ r) → ∃ ts bs, entVs τs i (ds ++ rest) = some (ts, bs, rest) ∧ ER I w ρq blk refs i xs ts bs
  | [], i, [], ds, rest, refs, xs, h, hx, _ => by
    cases h
    exact ⟨[], [], rfl, by simpa [ARels] using hx, fun D _ => by simp [AV.oks], fun L _ => by simp, by simp, by simp⟩
  | [], _, _ :: _, _, _, _, _, h, _, _ => by cases h
  | _ :: _, _, [], _, _, _, _, h, _, _ => by cases h
  | τ :: τs, i, v :: vs, ds, rest, refs, xs, h, hx, hq => by
    simp only [capVs] at h
    split at h
    case h_2 => cases h
    rename_i d r ds2 rs2 h1 h2
    cases h
    simp only [ARels] at hx
    obtain ⟨x, xs', rfl, x1, x2⟩ := hx
    obtain ⟨cs, es, y, rfl, hr, hes, hy, rfl⟩ := capV1_some h1
    obtain ⟨ts, bs, k1, k2⟩ := entVs_rel H (i := i + 1) (rest := rest) h2 x2 (by
      intro j r' hj
      have := hq (j + 1) r' (by simpa using hj)
      rwa [show i + (j + 1) = i + 1 + j by omega] at this)
    have hq0 : ρq (qn i) = ρ r := by have := hq 0 r rfl; simpa using this
    refine ⟨.ptr (qn i) 0 :: ts, (qn i, .vars (explode τ y)) :: bs, by simp only [List.cons_append, entVs, Ty.cast_self, k1], ?_, ?_, ?_, ?_, ?_⟩
    · simp only [List.map_cons, ARels, TV.den]
      refine ⟨x, xs', rfl, ?_, k2.rel⟩
      simp only [ARel] at x1 ⊢
      rw [hq0]; exact x1
    · intro D hD; simp only [List.map_cons, AV.oks, TV.den, AV.ok]
      exact ⟨hD (qn i) (.vars (explode τ y)) (by simp), k2.ok D fun q B hB => hD q B (by simp [hB])⟩
    · intro L hL u hu
      rcases List.mem_cons.1 hu with rfl | hu
      · simp only [okV]
      · exact k2.len L (fun q τ rows hm => hL q τ rows (by simp [hm])) u hu
    · intro q B hm
      rcases List.mem_cons.1 hm with e | hm
      · cases e
        refine ⟨0, r, _, rfl, rfl, hr, rfl, ?_, ?_, fun cs e L => by cases e; exact okVs_iff.2 (explode_ok L τ y)⟩
        · obtain ⟨b, ct, sz, c, el, fz, g1, g2, g3, g4, g5, g6⟩ := H r _ hr
          have hvr : VRels I w es c.toList := ARels.of_mapM (fun v d x hv hx => view_rel H (fun _ k => k) (fun k => by cases k) 8 v d x hv hx) _ _ _ hes g6
          have := (decC_rel τ I w es y [] (allOf_some hy)).1 _ hvr
          rw [List.append_nil] at this
          refine ⟨b, ct, sz, c, el, fz, by rw [hq0]; exact g1, g2, g3, g4, g5, ?_⟩
          rw [TV.dens_eq, explode_den]
          exact ARels.pd.2 this
        · simp only [TB.den, TV.dens_eq, explode_den, Block.ok]; exact AV.oks_pd _
      · exact ER.later (k2.blocks q B hm)
    · intro j r' hj
      cases j with
      | zero => exact ⟨.vars (explode τ y), by simp⟩
      | succ j =>
        obtain ⟨B, hB⟩ := k2.all j r' (by simpa using hj)
        exact ⟨B, by rw [show i + (j + 1) = i + 1 + j by omega]; simp [hB]⟩

theorem entG_rel (H : ∀ r B, blk r = some B → BRel I w ρ r B) : ∀ {as : List GA} {i : Nat} {args : List AV} {ds : List Dyn} {refs : List Ref} {xs : List Value}, as.all goodG = true → capGs blk as args = some (ds, refs) →
    ARels I w ρ args xs → (∀ (j : Nat) (r : Ref), refs[j]? = some r → ρq (qn (i + j)) = ρ r) → ∃ ts bs, entG as i ds = some (ts, bs) ∧ ER I w ρq blk refs i xs ts bs
  | [], i, [], ds, refs, xs, _, h, hx, _ => by
    cases h
    exact ⟨[], [], rfl, by simpa [ARels] using hx, fun D _ => by simp [AV.oks], fun L _ => by simp, by simp, by simp⟩
  | [], _, _ :: _, _, _, _, _, h, _, _ => by cases h
  | _ :: _, _, [], _, _, _, _, h, _, _ => by cases h
  | a :: as, i, v :: vs, ds, refs, xs, hg, h, hx, hq => by
    simp only [List.all_cons, Bool.and_eq_true] at hg
    simp only [capGs] at h
    split at h
    case h_2 => cases h
    rename_i ds1 rs1 ds2 rs2 h1 h2
    cases h
    simp only [ARels] at hx
    obtain ⟨x, xs', rfl, x1, x2⟩ := hx
    cases a with
    | imm a =>
      simp only [capG1] at h1
      replace h1 := bindT_some h1
      obtain ⟨d, hd, h1⟩ := h1
      obtain ⟨es, he, e⟩ := Option.map_eq_some_iff.1 h1
      cases e
      have hv : VRel I w d x := view_rel H (fun _ k => k) (fun k => by cases k) 8 v d x hd x1
      obtain ⟨t, t1, t2, t3, t4⟩ := entA_rel (ρq := ρq) (rest := ds2) hg.1 he hv
      obtain ⟨ts, bs, k1, k2⟩ := entG_rel H (i := i) hg.2 h2 x2 (by simpa using hq)
      refine ⟨t :: ts, bs, by simp only [entG, t1, k1], ?_, ?_, ?_, by simpa using k2.blocks, by simpa using k2.all⟩
      · simp only [List.map_cons, ARels]; exact ⟨x, xs', rfl, t2, k2.rel⟩
      · intro D hD; simp only [List.map_cons, AV.oks]; exact ⟨t3 D, k2.ok D hD⟩
      · intro L hL u hu
        rcases List.mem_cons.1 hu with rfl | hu
        · exact t4 L
        · exact k2.len L hL u hu
    | var τ =>
      cases v <;> simp only [capG1, reduceCtorEq] at h1
      rename_i r off
      cases off <;> simp only [reduceCtorEq] at h1
      split at h1
      · rename_i cs hr
        replace h1 := bindT_some h1
        obtain ⟨es, hes, h1⟩ := h1
        obtain ⟨y, hy, e⟩ := Option.map_eq_some_iff.1 h1
        cases e
        obtain ⟨ts, bs, k1, k2⟩ := entG_rel H (i := i + 1) (refs := rs2) hg.2 h2 x2 (by
          intro j r' hj
          have := hq (j + 1) r' (by simpa using hj)
          rwa [show i + (j + 1) = i + 1 + j by omega] at this)
        have hq0 : ρq (qn i) = ρ r := by have := hq 0 r rfl; simpa using this
        refine ⟨.ptr (qn i) 0 :: ts, (qn i, .vars (explode τ y)) :: bs, by simp only [List.cons_append, List.nil_append, entG, Ty.cast_self, k1], ?_, ?_, ?_, ?_, ?_⟩
        · simp only [List.map_cons, ARels, TV.den]
          refine ⟨x, xs', rfl, ?_, k2.rel⟩
          simp only [ARel] at x1 ⊢
          rw [hq0]; exact x1
        · intro D hD; simp only [List.map_cons, AV.oks, TV.den, AV.ok]
          exact ⟨hD (qn i) (.vars (explode τ y)) (by simp), k2.ok D fun q B hB => hD q B (by simp [hB])⟩
        · intro L hL u hu
          rcases List.mem_cons.1 hu with rfl | hu
          · simp only [okV]
          · exact k2.len L (fun q τ rows hm => hL q τ rows (by simp [hm])) u hu
        · intro q B hm
          rcases List.mem_cons.1 hm with e | hm
          · cases e
            refine ⟨0, r, _, rfl, rfl, hr, rfl, ?_, ?_, fun cs e L => by cases e; exact okVs_iff.2 (explode_ok L τ y)⟩
            · obtain ⟨b, ct, sz, c, el, fz, g1, g2, g3, g4, g5, g6⟩ := H r _ hr
              have hvr : VRels I w es c.toList := ARels.of_mapM (fun v d x hv hx => view_rel H (fun _ k => k) (fun k => by cases k) 8 v d x hv hx) _ _ _ hes g6
              have := (decC_rel τ I w es y [] (allOf_some hy)).1 _ hvr
              rw [List.append_nil] at this
              refine ⟨b, ct, sz, c, el, fz, by rw [hq0]; exact g1, g2, g3, g4, g5, ?_⟩
              rw [TV.dens_eq, explode_den]
              exact ARels.pd.2 this
            · simp only [TB.den, TV.dens_eq, explode_den, Block.ok]; exact AV.oks_pd _
          · exact ER.later (k2.blocks q B hm)
        · intro j r' hj
          cases j with
          | zero => exact ⟨.vars (explode τ y), by simp⟩
          | succ j =>
            obtain ⟨B, hB⟩ := k2.all j r' (by simpa using hj)
            exact ⟨B, by rw [show i + (j + 1) = i + 1 + j by omega]; simp [hB]⟩
      · cases h1
    | arr τ =>
      cases v <;> simp only [capG1, reduceCtorEq] at h1
      rename_i r sz off n
      split at h1
      · rename_i sz' rows hr
        split at h1
        · rename_i hc
          obtain ⟨y, hy, e⟩ := Option.map_eq_some_iff.1 h1
          cases e
          obtain ⟨rfl, rfl, rfl, hnle⟩ := hc
          obtain ⟨ts, bs, k1, k2⟩ := entG_rel H (i := i + 1) (refs := rs2) hg.2 h2 x2 (by
            intro j r' hj
            have := hq (j + 1) r' (by simpa using hj)
            rwa [show i + (j + 1) = i + 1 + j by omega] at this)
          have hq0 : ρq (qn i) = ρ r := by have := hq 0 r rfl; simpa using this
          have hlen : y.length = n := by
            have := (mapM_get hy).1
            rw [List.length_take] at this; omega
          refine ⟨.slw (qn i) τ.sz y.length :: ts, (qn i, .arr τ y) :: bs, by simp only [List.cons_append, List.nil_append, entG, Ty.cast_self, k1], ?_, ?_, ?_, ?_, ?_⟩
          · simp only [List.map_cons, ARels, TV.den]
            refine ⟨x, xs', rfl, ?_, k2.rel⟩
            simp only [ARel] at x1 ⊢
            rw [hq0, hlen]; exact x1
          · intro D hD; simp only [List.map_cons, AV.oks, TV.den, AV.ok]
            exact ⟨hD (qn i) (.arr τ y) (by simp), k2.ok D fun q B hB => hD q B (by simp [hB])⟩
          · intro L hL u hu
            rcases List.mem_cons.1 hu with rfl | hu
            · simp only [okV]; exact hL (qn i) τ y (by simp)
            · exact k2.len L (fun q τ rows hm => hL q τ rows (by simp [hm])) u hu
          · intro q B hm
            rcases List.mem_cons.1 hm with e | hm
            · cases e
              refine ⟨0, r, _, rfl, rfl, hr, rfl, ?_, by simp only [TB.den, Block.ok], fun cs e => by cases e⟩
              rcases H r _ hr with ⟨g1, g2⟩ | ⟨b, o, ct, c, el, fz, g1, g2, g3, g4, g5, g6, g7, g8⟩
              · left
                refine ⟨?_, by rw [hq0]; exact g2⟩
                have : y = [] := List.eq_nil_of_length_eq_zero (by rw [g1] at hnle; simp at hnle; omega)
                simp [this]
              · right
                exact ⟨b, o, ct, c, el, fz, by rw [hq0]; exact g1, g2, g3, g4, decRows_rel hy (g5.take n), by simp [hlen]; omega, g7, g8⟩
            · exact ER.later (k2.blocks q B hm)
          · intro j r' hj
            cases j with
            | zero => exact ⟨.arr τ y, by simp⟩
            | succ j =>
              obtain ⟨B, hB⟩ := k2.all j r' (by simpa using hj)
              exact ⟨B, by rw [show i + (j + 1) = i + 1 + j by omega]; simp [hB]⟩
        · cases h1
      · cases h1
    | cloV fn τs =>
      simp only [capG1] at h1
      split at h1
      case h_2 => cases h1
      rename_i f us
      split at h1
      case h_2 => cases h1
      rename_i hf
      simp only [ARel] at x1
      obtain ⟨p, q, rfl, r1, r2⟩ := x1
      obtain ⟨_, _, hl⟩ := capVs_length h1
      obtain ⟨ts1, bs1, a1, a2⟩ := entVs_rel H (i := i) (rest := ds2) (ρq := ρq) h1 r2 (by
        intro j r' hj
        exact hq j r' (by rw [List.getElem?_append_left (List.getElem?_eq_some_iff.1 hj).1]; exact hj))
      obtain ⟨ts, bs, k1, k2⟩ := entG_rel H (i := i + τs.length) (refs := rs2) hg.2 h2 x2 (by
        intro j r' hj
        have := hq (rs1.length + j) r' (by rw [List.getElem?_append_right (by omega)]; simpa using hj)
        rwa [hl, ← Nat.add_assoc] at this)
      refine ⟨.clo (.func fn) [] ts1 :: ts, bs1 ++ bs, by simp only [entG, a1, k1], ?_, ?_, ?_, ?_, ?_⟩
      · simp only [List.map_cons, ARels]
        refine ⟨_, xs', rfl, ?_, k2.rel⟩
        simp only [TV.den, TV.dens_eq, ARel, List.map_nil]
        exact ⟨p, q, by rw [Nat.eq_of_beq_eq_true hf], r1, a2.rel⟩
      · intro D hD
        simp only [List.map_cons, AV.oks, TV.den, TV.dens_eq, AV.ok, List.map_nil]
        exact ⟨⟨trivial, a2.ok D fun q B hB => hD q B (by simp [hB])⟩, k2.ok D fun q B hB => hD q B (by simp [hB])⟩
      · intro L hL u hu
        rcases List.mem_cons.1 hu with rfl | hu
        · simp only [okV]
          exact ⟨okVs_iff.2 (by simp), okVs_iff.2 (a2.len L fun q τ rows hm => hL q τ rows (by simp [hm]))⟩
        · exact k2.len L (fun q τ rows hm => hL q τ rows (by simp [hm])) u hu
      · intro q B hm
        rcases List.mem_append.1 hm with hm | hm
        · exact (a2.blocks q B hm).front
        · exact EB.shift (by rw [hl]; exact k2.blocks q B hm)
      · intro j r' hj
        rcases Nat.lt_or_ge j rs1.length with hlt | hge
        · rw [List.getElem?_append_left hlt] at hj
          obtain ⟨B, hB⟩ := a2.all j r' hj
          exact ⟨B, by simp [hB]⟩
        · rw [List.getElem?_append_right hge] at hj
          obtain ⟨B, hB⟩ := k2.all (j - rs1.length) r' hj
          refine ⟨B, ?_⟩
          rw [show i + j = i + τs.length + (j - rs1.length) by omega]
          simp [hB]
end

/-! ### The end -/
def finB : Bool × Ty → Option TB → Option Dyn
  | (true, τ), some (.vars cs) => match capC τ cs with
    | some (x, rest) => match rest with
      | [] => some ⟨τ, x⟩
      | _ :: _ => none
    | none => none
  | (false, τ), some (.arr τ' rows) => (Ty.cast (.sl τ') (.sl τ) rows).map fun x => ⟨.sl τ, x⟩
  | _, _ => none
def finK (blk : TBlk) : List (Bool × Ty) → List Bool → Nat → Option (List Dyn)
  | [], [], _ => some []
  | k :: ks, b :: bs, i => match b with
    | false => finK blk ks bs (i + 1)
    | true => match finB k (blk (qn i)), finK blk ks bs (i + 1) with
      | some d, some ds => some (d :: ds)
      | _, _ => none
  | _, _, _ => none
def locB (blk : TBlk) : TBlk := fun r => match isLoc r with
  | true => blk r
  | false => none
/-- Which blocks may be handed out as one's own: the function's, and the caller's that it does not keep. -/
def refOk (keeps : List Bool) : Ref → Bool
  | .loc _ _ => true
  | .out (.loc i k) => match k with
    | 0 => match keeps[i]? with
      | some false => true
      | _ => false
    | _ + 1 => false
  | .out (.out _) => false
/-- A name for a slice that is nil. -/
def dum (i : Nat) : Ref := .out (.out (.loc i 0))
def isDum : Ref → Bool
  | .out (.out _) => true
  | _ => false
/-- A slice of one's own: what it has, and where. -/
def finA (keeps : List Bool) (blk : TBlk) (i : Nat) (τ : Ty) : TV → Option (List τ.el × Ref)
  | .nil => some ([], dum i)
  | .slw r sz _ => match refOk keeps r && Nat.beq sz τ.sz, blk r with
    | true, some (.arr τ' rows) => (Ty.cast (.sl τ') (.sl τ) rows).map fun x => (x, r)
    | _, _ => none
  | .sl r sz off n => match refOk keeps r && Nat.beq sz τ.sz && Nat.beq off 0, blk r with
    | true, some (.arr τ' rows) => (window rows 0 n).bind fun rows => (Ty.cast (.sl τ') (.sl τ) rows).map fun x => (x, r)
    | _, _ => none
  | _ => none
/-- The blocks whose data may be told for good. -/
def locX (blk : TBlk) (own : List Ref) : TBlk := fun r => match isLoc r && !memR r own with
  | true => blk r
  | false => none
section
variable (keeps : List Bool) (blk : TBlk) (own : List Ref)
def finCs : List OC → Nat → List TV → Option (List Dyn × List Ref)
  | [], _, [] => some ([], [])
  | .dat τ :: cs, i, v :: vs => match capRes (locX blk own) [false] [τ] [v], finCs cs i vs with
    | some d1, some (ds, rs) => some (d1 ++ ds, rs)
    | _, _ => none
  | .arr τ :: cs, i, v :: vs => match finA keeps blk i τ v, finCs cs (i + 1) vs with
    | some (x, r), some (ds, rs) => some (⟨.sl τ, x⟩ :: ds, r :: rs)
    | _, _ => none
  | _, _, _ => none
def finRs : List OR → Nat → List TV → Option (List Dyn × List Ref)
  | [], _, [] => some ([], [])
  | .dat b τ :: l, i, v :: vs => match capRes (locX blk own) [b] [τ] [v], finRs l i vs with
    | some d1, some (ds, rs) => some (d1 ++ ds, rs)
    | _, _ => none
  | .cell c :: l, i, v :: vs => match finCs keeps blk own [c] i [v] with
    | some (d1, r1) => match finRs l (i + r1.length) vs with
      | some (ds, rs) => some (d1 ++ ds, r1 ++ rs)
      | none => none
    | none => none
  | .st cs :: l, i, v :: vs => match aggT v with
    | some us => match finCs keeps blk own cs i us with
      | some (d1, r1) => match finRs l (i + r1.length) vs with
        | some (ds, rs) => some (d1 ++ ds, r1 ++ rs)
        | none => none
      | none => none
    | none => none
  | _, _, _ => none
end
def ownCs : List OC → List TV → List Ref
  | .arr _ :: cs, v :: vs => match v with
    | .slw r _ _ => r :: ownCs cs vs
    | .sl r _ _ _ => r :: ownCs cs vs
    | _ => ownCs cs vs
  | .dat _ :: cs, _ :: vs => ownCs cs vs
  | _, _ => []
def ownRs : List OR → List TV → List Ref
  | .cell c :: l, v :: vs => ownCs [c] [v] ++ ownRs l vs
  | .st cs :: l, v :: vs => match aggT v with
    | some us => ownCs cs us ++ ownRs l vs
    | none => ownRs l vs
  | .dat _ _ :: l, _ :: vs => ownRs l vs
  | _, _ => []
def subOwn (own : List Ref) : List Ref → Bool
  | [] => true
  | r :: l => (isDum r || memR r own) && subOwn own l
theorem subOwn_mem {own : List Ref} : ∀ {l : List Ref}, subOwn own l = true → ∀ r ∈ l, isDum r = true ∨ r ∈ own
  | [], _, r, h => by cases h
  | x :: l, h, r, hr => by
    simp only [subOwn, Bool.and_eq_true, Bool.or_eq_true] at h
    rcases List.mem_cons.1 hr with rfl | hr
    · rcases h.1 with k | k
      · exact .inl k
      · exact .inr (memR_iff.1 k)
    · exact subOwn_mem h.2 r hr

def finR (blk : TBlk) (keeps : List Bool) (rs : List Ty) : GR → List TV → Option (List Dyn)
  | .imm bs, vs => capRes (locB blk) bs (rs.take bs.length) vs
  | .newv τ, vs => match vs with
    | [.ptr r off] => match isLoc r && Nat.beq off 0, finB (true, τ) (blk r) with
      | true, some d => some [d]
      | _, _ => none
    | _ => none
  | .newa τ, vs => match vs with
    | [.slw r sz _] => match isLoc r && Nat.beq sz τ.sz, finB (false, τ) (blk r) with
      | true, some d => some [d]
      | _, _ => none
    | _ => none
  | .own l, vs => match finRs keeps blk (ownRs l vs) l 0 vs with
    | some (ds, rs) => match distR rs && subOwn (ownRs l vs) rs with
      | true => some ds
      | false => none
    | none => none
/-! The same with what comes after them. -/
section
variable {R : Type} (keeps : List Bool) (blk : TBlk) (own : List Ref)
def finAK (i : Nat) (τ : Ty) (v : TV) (K : List τ.el → Ref → Option R) : Option R := match v with
  | .nil => K [] (dum i)
  | .slw r sz _ => match refOk keeps r && Nat.beq sz τ.sz, blk r with
    | true, some (.arr τ' rows) => (Ty.cast (.sl τ') (.sl τ) rows).bind fun x => K x r
    | _, _ => none
  | .sl r sz off n => match refOk keeps r && Nat.beq sz τ.sz && Nat.beq off 0, blk r with
    | true, some (.arr τ' rows) => (window rows 0 n).bind fun rows => (Ty.cast (.sl τ') (.sl τ) rows).bind fun x => K x r
    | _, _ => none
  | _ => none
def finCsK : List OC → Nat → List TV → (List Dyn → List Ref → Option R) → Option R
  | [], _, [], K => K [] []
  | .dat τ :: cs, i, v :: vs, K => capResK (locX blk own) [false] [τ] [v] fun d1 => finCsK cs i vs fun ds rs => K (d1 ++ ds) rs
  | .arr τ :: cs, i, v :: vs, K => finAK keeps blk i τ v fun x r => finCsK cs (i + 1) vs fun ds rs => K (⟨.sl τ, x⟩ :: ds) (r :: rs)
  | _, _, _, _ => none
def finRsK : List OR → Nat → List TV → (List Dyn → List Ref → Option R) → Option R
  | [], _, [], K => K [] []
  | .dat b τ :: l, i, v :: vs, K => capResK (locX blk own) [b] [τ] [v] fun d1 => finRsK l i vs fun ds rs => K (d1 ++ ds) rs
  | .cell c :: l, i, v :: vs, K => finCsK keeps blk own [c] i [v] fun d1 r1 => finRsK l (i + r1.length) vs fun ds rs => K (d1 ++ ds) (r1 ++ rs)
  | .st cs :: l, i, v :: vs, K => match aggT v with
    | some us => finCsK keeps blk own cs i us fun d1 r1 => finRsK l (i + r1.length) vs fun ds rs => K (d1 ++ ds) (r1 ++ rs)
    | none => none
  | _, _, _, _ => none
def finRK (rs : List Ty) (g : GR) (vs : List TV) (K : List Dyn → Option R) : Option R := match g with
  | .imm bs => capResK (locB blk) bs (rs.take bs.length) vs K
  | .own l => finRsK keeps blk (ownRs l vs) l 0 vs fun ds qs => match distR qs && subOwn (ownRs l vs) qs with
    | true => K ds
    | false => none
  | g => match finR blk keeps rs g vs with
    | some ds => K ds
    | none => none
variable {keeps blk own}
theorem finAK_some {i : Nat} {τ : Ty} {v : TV} {K : List τ.el → Ref → Option R} {x : R} (h : finAK keeps blk i τ v K = some x) : ∃ y r, finA keeps blk i τ v = some (y, r) ∧ K y r = some x := by
  unfold finAK at h
  split at h
  · exact ⟨_, _, rfl, h⟩
  · split at h
    · rename_i hb e
      replace h := bindT_some h
      obtain ⟨y, hy, h⟩ := h
      exact ⟨y, _, by simp only [finA, hb, e, hy, Option.map_some], h⟩
    · cases h
  · split at h
    · rename_i hb e
      replace h := bindT_some h
      obtain ⟨rows, hw, h⟩ := h
      replace h := bindT_some h
      obtain ⟨y, hy, h⟩ := h
      exact ⟨y, _, by simp only [finA, hb, e, hw, hy, Option.bind_some, Option.map_some], h⟩
    · cases h
  · cases h
theorem finCsK_some {x : R} : ∀ {cs : List OC} {i : Nat} {vs : List TV} {K : List Dyn → List Ref → Option R}, finCsK keeps blk own cs i vs K = some x → ∃ ds rs, finCs keeps blk own cs i vs = some (ds, rs) ∧ K ds rs = some x
  | [], _, [], K, h => ⟨[], [], rfl, h⟩
  | [], _, _ :: _, K, h => by cases h
  | .dat _ :: _, _, [], K, h => by cases h
  | .arr _ :: _, _, [], K, h => by cases h
  | .dat τ :: cs, i, v :: vs, K, h => by
    simp only [finCsK] at h
    obtain ⟨d1, h1, h⟩ := capResK_some h
    obtain ⟨ds, rs, h2, h⟩ := finCsK_some h
    exact ⟨_, _, by simp only [finCs, h1, h2], h⟩
  | .arr τ :: cs, i, v :: vs, K, h => by
    simp only [finCsK] at h
    obtain ⟨y, r, h1, h⟩ := finAK_some h
    obtain ⟨ds, rs, h2, h⟩ := finCsK_some h
    exact ⟨_, _, by simp only [finCs, h1, h2], h⟩
theorem finRsK_some {x : R} : ∀ {l : List OR} {i : Nat} {vs : List TV} {K : List Dyn → List Ref → Option R}, finRsK keeps blk own l i vs K = some x → ∃ ds rs, finRs keeps blk own l i vs = some (ds, rs) ∧ K ds rs = some x
  | [], _, [], K, h => ⟨[], [], rfl, h⟩
  | [], _, _ :: _, K, h => by cases h
  | .dat _ _ :: _, _, [], K, h => by cases h
  | .cell _ :: _, _, [], K, h => by cases h
  | .st _ :: _, _, [], K, h => by cases h
  | .dat b τ :: l, i, v :: vs, K, h => by
    simp only [finRsK] at h
    obtain ⟨d1, h1, h⟩ := capResK_some h
    obtain ⟨ds, rs, h2, h⟩ := finRsK_some h
    exact ⟨_, _, by simp only [finRs, h1, h2], h⟩
  | .cell c :: l, i, v :: vs, K, h => by
    simp only [finRsK] at h
    obtain ⟨d1, r1, h1, h⟩ := finCsK_some h
    obtain ⟨ds, rs, h2, h⟩ := finRsK_some h
    exact ⟨_, _, by simp only [finRs, h1, h2], h⟩
  | .st cs :: l, i, v :: vs, K, h => by
    simp only [finRsK] at h
    split at h
    · rename_i us hu
      obtain ⟨d1, r1, h1, h⟩ := finCsK_some h
      obtain ⟨ds, rs, h2, h⟩ := finRsK_some h
      exact ⟨_, _, by simp only [finRs, hu, h1, h2], h⟩
    · cases h
theorem finRK_some {rs : List Ty} {g : GR} {vs : List TV} {K : List Dyn → Option R} {x : R} (h : finRK keeps blk rs g vs K = some x) : ∃ ds, finR blk keeps rs g vs = some ds ∧ K ds = some x := by
  unfold finRK at h
  split at h
  · obtain ⟨ds, h1, h⟩ := capResK_some h
    exact ⟨ds, h1, h⟩
  · obtain ⟨ds, qs, h1, h⟩ := finRsK_some h
    split at h
    · rename_i hb
      exact ⟨ds, by simp only [finR, h1, hb], h⟩
    · cases h
  · split at h
    · rename_i e; exact ⟨_, e, h⟩
    · cases h
end
def finG (P : Program) (rv : List ResultVar) (ks : List (Bool × Ty)) (g : GR) (keeps : List Bool) (rs : List Ty) (s : TSt) : Option (els rs) :=
  (resTV P s rv).bind fun vs => finRK keeps s.blk rs g vs fun d1 => (finK s.blk ks keeps 0).bind fun d2 => pack rs (d1 ++ d2)
def outGT (P : Program) (rv : List ResultVar) (ks : List (Bool × Ty)) (g : GR) (keeps : List Bool) (rs : List Ty) : TOut → Option (els rs)
  | .normal s => finG P rv ks g keeps rs s
  | .ret s => finG P rv ks g keeps rs s
  | .exit _ _ => none
def outsG : List (Bool × Ty) → Nat → List Ref
  | [], _ => []
  | _ :: l, i => qn i :: outsG l (i + 1)

noncomputable def runGT (P : Program) (TΓ : TGam) (f : FuncId) (H : Hints) (as : List GA) (ts : List Ty) (g : GR) (keeps : List Bool) (rs : List Ty) (x : els ts) : Option (els rs) :=
  match P.funcs[f]? with
  | none => none
  | some fn => match fn.body with
    | none => none
    | some c => match entG as 0 (unpack ts x) with
      | none => none
      | some (vs, bs) => comp P TΓ fn.ntmps (outsG (kindsG as) 0) H (resUses fn.results.toList) c (els rs) [] (resUses fn.results.toList) ⟨nthT vs, findD bs⟩ (outGT P fn.results.toList (kindsG as) g keeps rs)

def okG (P : Program) (TΓ : TGam) (f : FuncId) (as : List GA) : Bool := match P.funcs[f]? with
  | none => false
  | some fn => match fn.body with
    | none => false
    | some c => drawOkD P (skel TΓ) c && as.all goodG && Nat.ble as.length fn.ntmps && !(fn.name == "runtime.NumGoroutine")

/-- The new block and the one that it was read from. -/
def conRel (B0 : TB) (B : Block) : Prop := ∃ τ, (∃ cs x, B0 = .vars cs ∧ capC τ cs = some (x, []) ∧ B = .vars ((encC τ x).map .pd)) ∨ (∃ rows m, B0 = .arr τ rows ∧ B = .arr τ.sz ((List.take m rows).map (encC τ)))

theorem finB_con {k : Bool × Ty} {B0 : Option TB} {d : Dyn} {B : Block} (h : finB k B0 = some d) (hc : conB k d = some B) : ∃ X, B0 = some X ∧ conRel X B := by
  obtain ⟨b, τ⟩ := k
  unfold finB at h
  split at h
  · rename_i cs e
    cases e
    split at h
    · rename_i x rest hx
      split at h
      · cases h
        simp only [conB, Ty.cast_self, Option.map_some, Option.some.injEq] at hc
        subst hc
        exact ⟨_, rfl, τ, .inl ⟨cs, x, rfl, hx, rfl⟩⟩
      · cases h
    · cases h
  · rename_i τ' rows e
    cases e
    obtain ⟨x, hx, rfl⟩ := Option.map_eq_some_iff.1 h
    simp only [conB, Ty.cast_self, Option.map_some, Option.some.injEq] at hc
    subst hc
    obtain ⟨c1, c2, c3⟩ := castSl hx
    subst c3
    exact ⟨_, rfl, τ', .inr ⟨rows, List.length rows, rfl, by rw [c1, List.take_of_length_le (Nat.le_refl _)]⟩⟩
  · cases h

theorem finK_N {blk : TBlk} : ∀ {ks : List (Bool × Ty)} {bs : List Bool} {refs : List Ref} {i : Nat} {ds : List Dyn} {n2 : List (Ref × Block)}, finK blk ks bs i = some ds → keptG conB ks bs refs ds = some n2 →
    ∃ N2 : List (Ref × Ref × Block), N2.map (fun t => (t.1, t.2.2)) = n2 ∧ ∀ r q B, (r, q, B) ∈ N2 → ∃ (j : Nat) (X : TB), refs[j]? = some r ∧ q = qn (i + j) ∧ blk q = some X ∧ conRel X B ∧ bs[j]? = some true
  | [], [], [], i, ds, n2, h1, h2 => by cases h1; cases h2; exact ⟨[], rfl, by simp⟩
  | [], [], _ :: _, _, _, _, h1, h2 => by cases h1; cases h2
  | [], _ :: _, _, _, _, _, h1, _ => by cases h1
  | _ :: _, [], _, _, _, _, h1, _ => by cases h1
  | _ :: _, _ :: _, [], _, _, _, _, h2 => by cases h2
  | k :: ks, b :: bs, r0 :: refs, i, ds, n2, h1, h2 => by
    cases b with
    | false =>
      simp only [finK] at h1
      simp only [keptG] at h2
      obtain ⟨N2, k1, k2⟩ := finK_N h1 h2
      refine ⟨N2, k1, fun r q B hm => ?_⟩
      obtain ⟨j, X, e1, e2, e3, e4, e5⟩ := k2 r q B hm
      exact ⟨j + 1, X, by simpa using e1, by rw [e2]; congr 1; omega, e3, e4, by simpa using e5⟩
    | true =>
      simp only [finK] at h1
      split at h1
      · rename_i d ds' hd hds
        cases h1
        simp only [keptG] at h2
        split at h2
        · rename_i B l hB hl
          cases h2
          obtain ⟨N2, k1, k2⟩ := finK_N hds hl
          obtain ⟨X, x1, x2⟩ := finB_con hd hB
          refine ⟨(r0, qn i, B) :: N2, by simp only [List.map_cons, k1], fun r q B' hm => ?_⟩
          rcases List.mem_cons.1 hm with e | hm
          · cases e; exact ⟨0, X, rfl, rfl, x1, x2, rfl⟩
          · obtain ⟨j, X, e1, e2, e3, e4, e5⟩ := k2 r q B' hm
            exact ⟨j + 1, X, by simpa using e1, by rw [e2]; congr 1; omega, e3, e4, by simpa using e5⟩
        · cases h2
      · cases h1

theorem conRel.facts {X : TB} {B : Block} (h : conRel X B) : X.den.owned = true ∧ B.ok (fun _ => False) ∧
    ∀ {I I2 : Nat → Prop} {w : World} {ρ ρ' : Ref → Pl} {q r : Ref}, BRel I w ρ q X.den → (∀ b, I b → I2 b) → (∀ b o ct sz, ρ q = .at b o ct sz → ¬ I2 b) → ρ' r = ρ q → BRel I2 w ρ' r B := by
  obtain ⟨τ, ⟨cs, x, rfl, hx, rfl⟩ | ⟨rows, m, rfl, rfl⟩⟩ := h
  · refine ⟨rfl, AV.oks_pd _, ?_⟩
    intro I I2 w ρ ρ' q r hb hI hn hρ
    obtain ⟨b, ct, sz, c, el, fz, g1, g2, g3, g4, g5, g6⟩ := hb
    refine ⟨b, ct, sz, c, el, fz, hρ.trans g1, g2, hn b _ _ _ g1, g4, g5, ?_⟩
    obtain ⟨pre, e, k⟩ := encC_lesP _ _ _ _ hx
    rw [List.append_nil] at e; subst e
    have := k [] [] (by unfold AVlesP; trivial)
    simp only [List.append_nil] at this
    rw [TV.dens_eq] at g6
    have hv := ARels.lesP _ _ _ this g6
    exact ARels.pd.2 (VRels.mono hI (fun _ _ => rfl) _ _ hv)
  · refine ⟨rfl, trivial, ?_⟩
    intro I I2 w ρ ρ' q r hb hI hn hρ
    rcases hb with ⟨g1, g2⟩ | ⟨b, o, ct, c, el, fz, g1, g2, g3, g4, g5, g6, g7, g8⟩
    · exact .inl ⟨by rw [List.map_take, g1]; simp, hρ.trans g2⟩
    · refine .inr ⟨b, o, ct, c, el, fz, hρ.trans g1, g2, hn b _ _ _ g1, g4, ?_, ?_, g7, g8⟩
      · rw [List.map_take]; exact (VRows.mono hI (fun _ _ => rfl) _ _ _ rfl _ g5).take m
      · rw [List.map_take, List.length_take]; omega

theorem findO_map {N : List (Ref × Ref × Block)} {r : Ref} : (findO N r).map (·.2) = findD (N.map fun t => (t.1, t.2.2)) r := by
  induction N with
  | nil => rfl
  | cons t N ih =>
    obtain ⟨r0, q, B⟩ := t
    simp only [List.map_cons, findO, findD]
    split
    · rfl
    · exact ih
def zipQ : Nat → List Ref → List (Ref × Ref)
  | _, [] => []
  | i, r :: l => (r, qn i) :: zipQ (i + 1) l
theorem zipQ_fst : ∀ (i : Nat) (l : List Ref), (zipQ i l).map (·.1) = l
  | _, [] => rfl
  | i, r :: l => by simp only [zipQ, List.map_cons, zipQ_fst (i + 1) l]
theorem zipQ_get : ∀ {i : Nat} {l : List Ref} {j : Nat} {r : Ref}, l[j]? = some r → (r, qn (i + j)) ∈ zipQ i l
  | _, [], _, _, h => by simp at h
  | i, r0 :: l, j, r, h => by
    cases j with
    | zero => simp at h; subst h; simp [zipQ]
    | succ j =>
      simp at h
      have := zipQ_get (i := i + 1) h
      rw [show i + (j + 1) = i + 1 + j by omega]
      simp [zipQ, this]
theorem overX_eq {N : List (Ref × Ref × Block)} {refs : List Ref} {blk : Blk} : overX N (zipQ 0 refs) blk = overB .dead (N.map fun t => (t.1, t.2.2)) refs blk := by
  funext r
  unfold overX overB
  rw [← findO_map, zipQ_fst]
  cases findO N r <;> rfl

/-- Where the function's names lie. -/
def placeQ (ρ : Ref → Pl) (refs : List Ref) : Ref → Pl
  | .out (.loc i 0) => match refs[i]? with
    | some r => ρ r
    | none => .gone
  | _ => .gone

def resOf : List Value → Value
  | [x] => x
  | xs => .tuple xs.toArray
theorem out_rel {I : Nat → Prop} {w : World} {ds : List (Bool × Dyn)} {ys : List Value} (h : VRels I w (ds.map resPD) ys) : VRel I w (outPD ds) (resOf ys) := by
  match ds, ys, h with
  | [], ys, h => simp only [List.map_nil, VRels] at h; subst h; simp only [outPD, VRel, List.map_nil]; exact ⟨#[], rfl, by simp [VRels]⟩
  | [d], ys, h =>
    simp only [List.map_cons, List.map_nil, VRels] at h
    obtain ⟨y, _, rfl, h1, rfl⟩ := h
    exact h1
  | d :: e :: ds, ys, h =>
    have h' := h
    simp only [List.map_cons, VRels] at h'
    obtain ⟨y, _, rfl, _, z, zs, rfl, _⟩ := h'
    simp only [outPD, VRel]
    exact ⟨_, rfl, by simpa using h⟩

theorem capRes_length {blk : TBlk} : ∀ {bs : List Bool} {ts : List Ty} {vs : List TV} {ds : List Dyn}, capRes blk bs ts vs = some ds → ds.length = bs.length
  | [], [], [], ds, h => by cases h; rfl
  | true :: bs, τ :: ts, v :: vs, ds, h => by
    simp only [capRes] at h
    split at h
    · replace h := bindT_some h
      obtain ⟨x, hx, h⟩ := h
      obtain ⟨es, he, rfl⟩ := Option.map_eq_some_iff.1 h
      simp [capRes_length he]
    · cases h
  | false :: bs, τ :: ts, v :: vs, ds, h => by
    simp only [capRes] at h
    split at h
    · replace h := bindT_some h
      obtain ⟨x, hx, h⟩ := h
      obtain ⟨es, he, rfl⟩ := Option.map_eq_some_iff.1 h
      simp [capRes_length he]
    · cases h
  | [], _ :: _, _, _, h => by simp [capRes] at h
  | [], [], _ :: _, _, h => by simp [capRes] at h
  | _ :: _, [], _, _, h => by simp [capRes] at h
  | _ :: _, _ :: _, [], _, h => by simp [capRes] at h

theorem locB_some {blk : TBlk} {r : Ref} {B : TB} (h : locB blk r = some B) : isLoc r = true ∧ blk r = some B := by
  unfold locB at h; split at h
  · rename_i e; exact ⟨e, h⟩
  · cases h
theorem denB_loc {blk : TBlk} {r : Ref} {B : Block} (h : denB (locB blk) r = some B) : isLoc r = true ∧ denB blk r = some B := by
  unfold denB at h
  obtain ⟨X, hX, rfl⟩ := Option.map_eq_some_iff.1 h
  obtain ⟨h1, h2⟩ := locB_some hX
  exact ⟨h1, by simp [denB, h2]⟩
section
variable {P : Program} {Γ : Gam} {TΓ : TGam}

theorem capVs_dom {blk : Blk} : ∀ {τs : List Ty} {args : List AV} {ds : List Dyn} {refs : List Ref}, capVs blk τs args = some (ds, refs) → ∀ r ∈ refs, ∃ B, blk r = some B ∧ B.owned = true
  | [], [], ds, refs, h => by cases h; simp
  | [], _ :: _, _, _, h => by cases h
  | _ :: _, [], _, _, h => by cases h
  | τ :: τs, v :: vs, ds, refs, h => by
    simp only [capVs] at h
    split at h
    case h_2 => cases h
    rename_i d r0 ds2 rs2 h1 h2
    cases h
    obtain ⟨cs, es, y, rfl, hr, _⟩ := capV1_some h1
    intro r hm
    rcases List.mem_cons.1 hm with rfl | hm
    · exact ⟨_, hr, rfl⟩
    · exact capVs_dom h2 r hm

theorem capGs_dom {blk : Blk} : ∀ {as : List GA} {args : List AV} {ds : List Dyn} {refs : List Ref}, capGs blk as args = some (ds, refs) → ∀ r ∈ refs, ∃ B, blk r = some B ∧ B.owned = true
  | [], [], ds, refs, h => by cases h; simp
  | [], _ :: _, _, _, h => by cases h
  | _ :: _, [], _, _, h => by cases h
  | a :: as, v :: vs, ds, refs, h => by
    simp only [capGs] at h
    split at h
    case h_2 => cases h
    rename_i ds1 rs1 ds2 rs2 h1 h2
    cases h
    intro r hr
    rcases List.mem_append.1 hr with hr | hr
    · cases a with
      | imm a =>
        simp only [capG1] at h1
        replace h1 := bindT_some h1
        obtain ⟨d, _, h1⟩ := h1
        obtain ⟨_, _, e⟩ := Option.map_eq_some_iff.1 h1
        cases e; cases hr
      | var τ =>
        cases v <;> simp only [capG1, reduceCtorEq] at h1
        rename_i r0 off
        cases off <;> simp only [reduceCtorEq] at h1
        split at h1
        · rename_i cs hb
          replace h1 := bindT_some h1
          obtain ⟨_, _, h1⟩ := h1
          obtain ⟨_, _, e⟩ := Option.map_eq_some_iff.1 h1
          cases e
          simp at hr; subst hr; exact ⟨_, hb, rfl⟩
        · cases h1
      | arr τ =>
        cases v <;> simp only [capG1, reduceCtorEq] at h1
        split at h1
        · rename_i hb
          split at h1
          · obtain ⟨_, _, e⟩ := Option.map_eq_some_iff.1 h1
            cases e
            simp at hr; subst hr; exact ⟨_, hb, rfl⟩
          · cases h1
        · cases h1
      | cloV fn τs =>
        simp only [capG1] at h1
        split at h1
        case h_2 => cases h1
        split at h1
        case h_2 => cases h1
        exact capVs_dom h1 r hr
    · exact capGs_dom h2 r hr

theorem GSpec.lift_parts {s : GSpec} {d : Nat} {args : List AV} {blk : Blk} {v : AV} {blk' : Blk} (h : s.lift d args blk = some (v, blk')) :
    ∃ ds refs x y n1 rest n2, capGs blk s.args args = some (ds, refs) ∧ distR refs = true ∧ pack s.ts ds = some x ∧ s.F x = some y ∧
      outG conB vkA d s.res (unpack s.rs y) = some (v, n1, rest) ∧ keptG conB (kindsG s.args) s.keeps refs rest = some n2 ∧ blk' = overB .dead (n1 ++ n2) refs blk := by
  unfold GSpec.lift at h
  split at h
  · cases h
  rename_i ds refs hc
  split at h
  · rename_i x hd hp
    split at h
    · rename_i y hF
      split at h
      · rename_i v' n1 rest ho
        split at h
        · rename_i n2 hk
          cases h
          exact ⟨ds, refs, x, y, n1, rest, n2, hc, hd, hp, hF, ho, hk, rfl⟩
        · cases h
      · cases h
    · cases h
  · cases h

theorem outCs_vok {d : Nat} {D : Ref → Prop} : ∀ {cs : List OC} {i : Nat} {ds : List Dyn} {vs : List AV} {N : List (Ref × Block)} {rest : List Dyn} {j : Nat}, outCs conB vkA d cs i ds = some (vs, N, rest, j) → (∀ r B, (r, B) ∈ N → D r) → AV.oks D vs
  | [], i, ds, vs, N, rest, j, h, _ => by cases h; simp only [AV.oks]
  | .dat τ :: cs, i, ds, vs, N, rest, j, h, hD => by
    cases ds with
    | nil => cases h
    | cons x ds =>
      obtain ⟨τ', x⟩ := x
      simp only [outCs] at h
      split at h
      · rename_i h2
        cases h
        simp only [AV.oks, vkA, AV.ok, true_and]
        exact outCs_vok h2 hD
      · cases h
  | .arr τ :: cs, i, ds, vs, N, rest, j, h, hD => by
    cases ds with
    | nil => cases h
    | cons x ds =>
      obtain ⟨τ', x⟩ := x
      simp only [outCs] at h
      split at h
      · rename_i h2
        cases h
        simp only [AV.oks, vkA, AV.ok]
        exact ⟨hD _ _ List.mem_cons_self, outCs_vok h2 fun r B hm => hD r B (List.mem_cons_of_mem _ hm)⟩
      · cases h
theorem outRs_vok {d : Nat} {D : Ref → Prop} : ∀ {l : List OR} {i : Nat} {ds : List Dyn} {vs : List AV} {N : List (Ref × Block)} {rest : List Dyn} {j : Nat}, outRs conB vkA d l i ds = some (vs, N, rest, j) → (∀ r B, (r, B) ∈ N → D r) → AV.oks D vs
  | [], i, ds, vs, N, rest, j, h, _ => by cases h; simp only [AV.oks]
  | .dat b τ :: l, i, ds, vs, N, rest, j, h, hD => by
    cases ds with
    | nil => cases h
    | cons x ds =>
      simp only [outRs] at h
      split at h
      · rename_i h2
        cases h
        simp only [AV.oks, vkA, AV.ok, true_and]
        exact outRs_vok h2 hD
      · cases h
  | .cell c :: l, i, ds, vs, N, rest, j, h, hD => by
    simp only [outRs] at h
    split at h
    · rename_i h1
      split at h
      · rename_i h2
        cases h
        exact AV.oks_append (outCs_vok h1 fun r B hm => hD r B (by simp [hm])) (outRs_vok h2 fun r B hm => hD r B (by simp [hm]))
      · cases h
    · cases h
  | .st cs :: l, i, ds, vs, N, rest, j, h, hD => by
    simp only [outRs] at h
    split at h
    · rename_i h1
      split at h
      · rename_i h2
        cases h
        simp only [AV.oks, vkA, AV.ok]
        exact ⟨outCs_vok h1 fun r B hm => hD r B (by simp [hm]), outRs_vok h2 fun r B hm => hD r B (by simp [hm])⟩
      · cases h
    · cases h

theorem outG_names {d : Nat} {g : GR} {ds : List Dyn} {v : AV} {n1 : List (Ref × Block)} {rest : List Dyn} (h : outG conB vkA d g ds = some (v, n1, rest)) :
    (∀ r B, (r, B) ∈ n1 → (∃ i, r = .loc d i ∧ i < 4) ∧ B.ok (fun _ => False)) ∧ ∀ D : Ref → Prop, (∀ r B, (r, B) ∈ n1 → D r) → v.ok D := by
  have con : ∀ {k : Bool × Ty} {x : Dyn} {B : Block}, conB k x = some B → B.ok (fun _ => False) := by
    intro k x B hB
    obtain ⟨b, τ⟩ := k
    obtain ⟨τ', x⟩ := x
    cases b
    · simp only [conB, Option.map_eq_some_iff] at hB; obtain ⟨_, _, rfl⟩ := hB; trivial
    · simp only [conB, Option.map_eq_some_iff] at hB; obtain ⟨_, _, rfl⟩ := hB; exact AV.oks_pd _
  refine ⟨fun r B hm => ?_, ?_⟩
  · obtain ⟨k1, k, x, k2⟩ := (outG_new h).1 r B hm
    exact ⟨k1, con k2⟩
  cases g with
  | imm bs =>
    simp only [outG, Option.some.injEq, Prod.mk.injEq] at h
    obtain ⟨rfl, rfl, _⟩ := h
    exact fun D _ => by simp only [vkA, AV.ok]
  | newv τ =>
    simp only [outG] at h
    split at h
    · split at h
      · cases h
        exact fun D hD => by simp only [vkA, AV.ok]; exact hD _ _ (List.mem_singleton.2 rfl)
      · cases h
    · cases h
  | newa τ =>
    simp only [outG] at h
    split at h
    · split at h
      · cases h
        exact fun D hD => by simp only [vkA, AV.ok]; exact hD _ _ (List.mem_singleton.2 rfl)
      · cases h
    · cases h
  | own l =>
    simp only [outG] at h
    split at h
    · rename_i h2
      split at h
      · cases h
        intro D hD
        have := outRs_vok h2 hD
        unfold oneOf
        split
        · simp only [AV.oks] at this; exact this.1
        · simp only [vkA, AV.ok]; exact this
      · cases h
    · cases h

theorem capV1_lone {blk : Blk} {e : Ref} {X : Block} (he : blk e = none) (hb : ∀ r B, blk r = some B → B.ok (dom blk)) (τ : Ty) {v : AV} (hv : v.ok (dom blk)) : capV1 (upd blk e (some X)) τ v = capV1 blk τ v := by
  cases v <;> simp only [capV1]
  rename_i r off
  cases off <;> simp only
  simp only [AV.ok] at hv
  have : r ≠ e := by rintro rfl; unfold dom at hv; rw [he] at hv; cases hv
  rw [upd_ne _ _ this]
  split
  · rename_i cs hr
    have hcs := hb r _ hr
    simp only [Block.ok] at hcs
    rw [mapM_congr cs fun x hx => view_lone he hb 8 x (AV.oks_iff.1 hcs x hx)]
  · rfl
theorem capVs_lone {blk : Blk} {e : Ref} {X : Block} (he : blk e = none) (hb : ∀ r B, blk r = some B → B.ok (dom blk)) : ∀ (τs : List Ty) (args : List AV), AV.oks (dom blk) args → capVs (upd blk e (some X)) τs args = capVs blk τs args
  | [], [], _ => rfl
  | [], _ :: _, _ => rfl
  | _ :: _, [], _ => rfl
  | τ :: τs, v :: vs, h => by
    simp only [AV.oks] at h
    simp only [capVs, capV1_lone he hb τ h.1, capVs_lone he hb τs vs h.2]

theorem capG1_lone {blk : Blk} {e : Ref} {X : Block} (he : blk e = none) (hb : ∀ r B, blk r = some B → B.ok (dom blk)) (a : GA) {v : AV} (hv : v.ok (dom blk)) : capG1 (upd blk e (some X)) a v = capG1 blk a v := by
  cases a with
  | imm a => simp only [capG1]; rw [view_lone he hb 8 v hv]
  | var τ =>
    cases v <;> simp only [capG1]
    rename_i r off
    cases off <;> simp only
    simp only [AV.ok] at hv
    have : r ≠ e := by rintro rfl; unfold dom at hv; rw [he] at hv; cases hv
    rw [upd_ne _ _ this]
    split
    · rename_i cs hr
      have hcs := hb r _ hr
      simp only [Block.ok] at hcs
      rw [mapM_congr cs fun x hx => view_lone he hb 8 x (AV.oks_iff.1 hcs x hx)]
    · rfl
  | arr τ =>
    cases v <;> simp only [capG1]
    simp only [AV.ok] at hv
    rename_i r sz off n
    have : r ≠ e := by rintro rfl; unfold dom at hv; rw [he] at hv; cases hv
    rw [upd_ne _ _ this]
  | cloV fn τs =>
    simp only [capG1]
    split
    · simp only [AV.ok] at hv
      rw [capVs_lone he hb τs _ hv.2]
    · rfl
theorem capGs_lone {blk : Blk} {e : Ref} {X : Block} (he : blk e = none) (hb : ∀ r B, blk r = some B → B.ok (dom blk)) : ∀ (as : List GA) (args : List AV), AV.oks (dom blk) args → capGs (upd blk e (some X)) as args = capGs blk as args
  | [], [], _ => rfl
  | [], _ :: _, _ => rfl
  | _ :: _, [], _ => rfl
  | a :: as, v :: vs, h => by
    simp only [AV.oks] at h
    simp only [capGs, capG1_lone he hb a h.1, capGs_lone he hb as vs h.2]

theorem GSpec.lift_lone (s : GSpec) {d : Nat} {args : List AV} {blk : Blk} {e : Ref} {B : Block} (he : blk e = none) (hd : ∀ i, e ≠ .loc d i) (ha : AV.oks (dom blk) args) (hb : ∀ r X, blk r = some X → X.ok (dom blk)) :
    s.lift d args (upd blk e (some B)) = (s.lift d args blk).map fun (v, b) => (v, upd b e (some B)) := by
  unfold GSpec.lift
  rw [capGs_lone he hb _ _ ha]
  split
  · rfl
  rename_i ds refs hc
  split
  · split
    · split
      · rename_i v n1 rest ho
        split
        · rename_i n2 hk
          simp only [Option.map_some, Option.some.injEq, Prod.mk.injEq, true_and]
          have hnotR : ∀ r ∈ refs, r ≠ e := by
            rintro r hr rfl
            obtain ⟨X, hX, _⟩ := capGs_dom hc r hr
            rw [he] at hX; cases hX
          have hf : findD (n1 ++ n2) e = none := by
            cases hfd : findD (n1 ++ n2) e with
            | none => rfl
            | some X =>
              exfalso
              rcases List.mem_append.1 (findD_mem hfd) with hm | hm
              · obtain ⟨⟨i, hi, _⟩, _⟩ := (outG_names ho).1 e X hm; exact hd i hi
              · obtain ⟨i, k, x, _, _, h3, _⟩ := keptG_mem hk e X hm
                exact hnotR e (List.mem_of_getElem? h3) rfl
          funext r
          by_cases hr : r = e
          · subst hr
            rw [upd_same]
            unfold overB
            rw [hf]
            have : memR r refs = false := by
              cases hm : memR r refs with
              | false => rfl
              | true => exact (hnotR r (memR_iff.1 hm) rfl).elim
            simp only [this, upd_same]
          · rw [upd_ne _ _ hr]
            unfold overB
            rw [upd_ne _ _ hr]
        · rfl
      · rfl
    · rfl
  · rfl

theorem GSpec.lift_news (s : GSpec) {d : Nat} {args : List AV} {blk : Blk} {v : AV} {blk' : Blk} (h : s.lift d args blk = some (v, blk')) (e : Ref) (he : blk e = none) (hd : ∀ i, e ≠ .loc d i) : blk' e = none := by
  obtain ⟨ds, refs, x, y, n1, rest, n2, hc, _, _, _, ho, hk, rfl⟩ := GSpec.lift_parts h
  have hnotR : ∀ r ∈ refs, r ≠ e := by
    rintro r hr rfl
    obtain ⟨X, hX, _⟩ := capGs_dom hc r hr
    rw [he] at hX; cases hX
  unfold overB
  cases hfd : findD (n1 ++ n2) e with
  | some X =>
    exfalso
    rcases List.mem_append.1 (findD_mem hfd) with hm | hm
    · obtain ⟨⟨i, hi, _⟩, _⟩ := (outG_names ho).1 e X hm; exact hd i hi
    · obtain ⟨i, k, x, _, _, h3, _⟩ := keptG_mem hk e X hm
      exact hnotR e (List.mem_of_getElem? h3) rfl
  | none =>
    simp only
    split
    · rename_i hm; exact (hnotR e (memR_iff.1 hm) rfl).elim
    · exact he

theorem conB_ok {k : Bool × Ty} {x : Dyn} {B : Block} (hB : conB k x = some B) (D : Ref → Prop) : B.ok D := by
  obtain ⟨b, τ⟩ := k
  obtain ⟨τ', x⟩ := x
  cases b
  · simp only [conB, Option.map_eq_some_iff] at hB; obtain ⟨_, _, rfl⟩ := hB; trivial
  · simp only [conB, Option.map_eq_some_iff] at hB; obtain ⟨_, _, rfl⟩ := hB; exact AV.oks_pd _

theorem overB_dom {N : List (Ref × Block)} {R : List Ref} {blk : Blk} (r : Ref) (h : dom blk r) : dom (overB .dead N R blk) r := by
  unfold dom overB at *
  split
  · rfl
  · split
    · rfl
    · exact h

theorem GSpec.lift_ok (s : GSpec) {d : Nat} {args : List AV} {blk : Blk} {v : AV} {blk' : Blk} (h : s.lift d args blk = some (v, blk')) (hb : ∀ r X, blk r = some X → X.ok (dom blk)) :
    v.ok (dom blk') ∧ (∀ r, dom blk r → dom blk' r) ∧ ∀ r X, blk' r = some X → X.ok (dom blk') := by
  obtain ⟨ds, refs, x, y, n1, rest, n2, hc, _, _, _, ho, hk, rfl⟩ := GSpec.lift_parts h
  refine ⟨(outG_names ho).2 _ fun r B hm => ?_, overB_dom, fun r X hr => ?_⟩
  · unfold dom overB
    rw [findD_append]
    cases hf : findD n1 r with
    | some X => rfl
    | none => exact (findD_none hf B hm).elim
  · unfold overB at hr
    cases hfd : findD (n1 ++ n2) r with
    | some Y =>
      rw [hfd] at hr; cases hr
      rcases List.mem_append.1 (findD_mem hfd) with hm | hm
      · have := ((outG_names ho).1 r X hm).2
        cases X with
        | vars cs => exact AV.oks.mono (fun _ k => k.elim) cs this
        | _ => trivial
      · obtain ⟨_, k, x, _, _, _, hc⟩ := keptG_mem hk r X hm
        exact conB_ok hc _
    | none =>
      rw [hfd] at hr
      simp only at hr
      split at hr
      · cases hr; trivial
      · have := hb r X hr
        cases X with
        | vars cs => exact AV.oks.mono overB_dom cs this
        | _ => trivial
end
end Go.Abs

/- Functions that work on blocks of their callers': the contract holds. -/
namespace Go.Abs
open Go.RowKit

theorem findD_of_mem {α : Type} {l : List (Ref × α)} (hd : ∀ r a b, (r, a) ∈ l → (r, b) ∈ l → a = b) {r : Ref} {a : α} (h : (r, a) ∈ l) : findD l r = some a := by
  cases hf : findD l r with
  | none => exact (findD_none hf a h).elim
  | some b => rw [hd r a b h (findD_mem hf)]

theorem outsG_mem : ∀ {l : List (Bool × Ty)} {i : Nat} {q : Ref}, (∃ j, j < l.length ∧ q = qn (i + j)) → q ∈ outsG l i
  | [], i, q, ⟨j, hj, _⟩ => by simp at hj
  | k :: l, i, q, ⟨j, hj, e⟩ => by
    simp only [outsG]
    cases j with
    | zero => simp [e]
    | succ j =>
      have := outsG_mem (l := l) (i := i + 1) (q := q) ⟨j, by simpa using hj, by rw [e]; congr 1; omega⟩
      simp [this]

theorem varsK_length : ∀ (τs : List Ty) (l : List (Bool × Ty)), (varsK τs l).length = τs.length + l.length
  | [], l => by simp [varsK]
  | τ :: τs, l => by simp only [varsK, List.length_cons, varsK_length τs l]; omega

theorem capGs_kinds {blk : Blk} : ∀ {as : List GA} {args : List AV} {ds : List Dyn} {refs : List Ref}, capGs blk as args = some (ds, refs) → refs.length = (kindsG as).length
  | [], [], ds, refs, h => by cases h; rfl
  | [], _ :: _, _, _, h => by cases h
  | _ :: _, [], _, _, h => by cases h
  | a :: as, v :: vs, ds, refs, h => by
    simp only [capGs] at h
    split at h
    case h_2 => cases h
    rename_i ds1 rs1 ds2 rs2 h1 h2
    cases h
    have ih := capGs_kinds h2
    cases a with
    | imm a =>
      simp only [capG1] at h1
      replace h1 := bindT_some h1
      obtain ⟨d, _, h1⟩ := h1
      obtain ⟨_, _, e⟩ := Option.map_eq_some_iff.1 h1
      cases e; simpa [kindsG] using ih
    | var τ =>
      cases v <;> simp only [capG1, reduceCtorEq] at h1
      rename_i r0 off
      cases off <;> simp only [reduceCtorEq] at h1
      split at h1
      · replace h1 := bindT_some h1
        obtain ⟨_, _, h1⟩ := h1
        obtain ⟨_, _, e⟩ := Option.map_eq_some_iff.1 h1
        cases e
        simp [kindsG, ih]
      · cases h1
    | arr τ =>
      cases v <;> simp only [capG1, reduceCtorEq] at h1
      split at h1
      · split at h1
        · obtain ⟨_, _, e⟩ := Option.map_eq_some_iff.1 h1
          cases e
          simp [kindsG, ih]
        · cases h1
      · cases h1
    | cloV fn τs =>
      simp only [capG1] at h1
      split at h1
      case h_2 => cases h1
      split at h1
      case h_2 => cases h1
      rw [List.length_append, (capVs_length h1).2.2, ih, kindsG, varsK_length]

section
variable {P : Program} {Γ : Gam} {TΓ : TGam}

def ctxQ (P : Program) (w : World) (I : Nat → Prop) (refs : List Ref) (blk : Blk) (ρ : Ref → Pl) (n : Nat) : Ctx :=
  { P, w0 := w, I0 := I, fix := fun b => ¬ Held (fun r => r ∈ (zipQ 0 refs).map (·.1)) blk ρ b, n, D0 := fun q => ∃ j, j < refs.length ∧ q = qn j, ρ0 := placeQ ρ refs }

theorem placeQ_qn {ρ : Ref → Pl} {refs : List Ref} {j : Nat} {r : Ref} (h : refs[j]? = some r) : placeQ ρ refs (qn j) = ρ r := by
  simp only [qn, placeQ, h]

/-- The state that the function begins with. -/
theorem entryQ_rel {I : Nat → Prop} {w : World} {ρ : Ref → Pl} {blk : Blk} {refs : List Ref} {n : Nat} {xs : List Value} {ts : List TV} {bs : List (Ref × TB)} (h : HRel I ρ w blk) (hdist : distR refs = true)
    (he : ER I w (placeQ ρ refs) blk refs 0 xs ts bs) (hn : ts.length ≤ n) (huniq : ∀ q a b, (q, a) ∈ bs → (q, b) ∈ bs → a = b) :
    SRel (ctxQ P w I refs blk ρ n) (TSt.den ⟨nthT ts, findD bs⟩) { tmps := xs.toArray ++ Array.replicate (n - xs.toArray.size) undef, defers := [] } w ∧ TSt.Ok ⟨nthT ts, findD bs⟩ := by
  have hxl : xs.length = ts.length := by have := he.rel.length; simpa using this
  have hdom : ∀ q B, (q, B) ∈ bs → dom (denB (findD bs)) q := by
    intro q B hm
    unfold dom denB
    cases hf : findD bs q with
    | some X => rfl
    | none => exact (findD_none hf B hm).elim
  have hbl : ∀ q X, denB (findD bs) q = some X → ∃ B, (q, B) ∈ bs ∧ X = B.den := by
    intro q X hq
    unfold denB at hq
    obtain ⟨B, hB, rfl⟩ := Option.map_eq_some_iff.1 hq
    exact ⟨B, findD_mem hB, rfl⟩
  have hok := he.ok (dom (denB (findD bs))) hdom
  refine ⟨⟨I, placeQ ρ refs, rfl, by simp [ctxQ]; omega, ⟨h.imm, ?_, ?_, ?_⟩, fun _ k => k, fun _ k => .inl k, Frame.refl _ _, ?_, fun t => ?_, fun t => ?_, ?_⟩, ?_, ?_⟩
  · intro q X hq
    obtain ⟨B, hm, rfl⟩ := hbl q X hq
    obtain ⟨j, r, B0, _, _, _, _, hr, _⟩ := he.blocks q B hm
    exact hr
  · intro q q' X X' b o ct sz o' ct' sz' hq hO hq' hO' hp hp'
    obtain ⟨B, hm, rfl⟩ := hbl q X hq
    obtain ⟨B', hm', rfl⟩ := hbl q' X' hq'
    obtain ⟨j, r, B0, e1, e2, e3, e4, _⟩ := he.blocks q B hm
    obtain ⟨j', r', B0', e1', e2', e3', e4', _⟩ := he.blocks q' B' hm'
    rw [Nat.zero_add] at e2 e2'
    subst e2; subst e2'
    rw [placeQ_qn e1] at hp
    rw [placeQ_qn e1'] at hp'
    have := h.inj r r' B0 B0' b _ _ _ _ _ _ e3 e4 e3' e4' hp hp'
    subst this
    rw [distR_get hdist e1 e1']
  · intro q X hq
    obtain ⟨B, hm, rfl⟩ := hbl q X hq
    obtain ⟨j, r, B0, _, _, _, _, _, hr, _⟩ := he.blocks q B hm
    cases hB : B.den with
    | vars cs => rw [hB] at hr; exact AV.oks.mono (fun _ k => k.elim) cs hr
    | _ => trivial
  · intro q X b o ct sz hq hO hp hf
    obtain ⟨B, hm, rfl⟩ := hbl q X hq
    obtain ⟨j, r, B0, e1, e2, e3, e4, _⟩ := he.blocks q B hm
    rw [Nat.zero_add] at e2
    subst e2
    rw [placeQ_qn e1] at hp
    exact (hf ⟨r, B0, o, ct, sz, by rw [zipQ_fst]; exact List.mem_of_getElem? e1, e3, e4, hp⟩).elim
  · simp only [TSt.den, denE, nthT_get]
    cases ht : ts[t]? with
    | none => simp only [TV.den, ARel]
    | some v =>
      have ht' : (ts.map TV.den)[t]? = some v.den := by simp [ht]
      obtain ⟨u, hu, hr⟩ := ARels.get he.rel ht'
      have : (xs.toArray ++ Array.replicate (n - xs.toArray.size) undef).getD t undef = u := by
        have hlt : t < xs.length := (List.getElem?_eq_some_iff.1 hu).1
        rw [Array.getD_eq_getD_getElem?, Array.getElem?_append_left (by simpa using hlt)]
        simp [hu]
      rw [this]; exact hr
  · simp only [TSt.den, denE, nthT_get]
    cases ht : ts[t]? with
    | none => simp only [TV.den, AV.ok]
    | some v => exact AV.oks_iff.1 hok v.den (List.mem_map.2 ⟨v, List.mem_of_getElem? ht, rfl⟩)
  · rintro q ⟨j, hj, rfl⟩
    obtain ⟨B, hB⟩ := he.all j refs[j] (by simp [hj])
    rw [Nat.zero_add] at hB
    exact ⟨hdom _ B hB, .inl rfl⟩
  · intro t
    show okV _ (nthT ts t)
    rw [nthT_get]
    cases ht : ts[t]? with
    | none => simp only [okV]
    | some v =>
      refine he.len _ (fun q τ rows hm => ?_) v (List.mem_of_getElem? ht)
      have hf := findD_of_mem huniq hm
      refine ⟨by show (findD bs q).isSome = true; rw [hf]; rfl, fun τ' rows' hr => ?_⟩
      have hr : findD bs q = some (.arr τ' rows') ∨ findD bs q = some (.fro τ' rows') := hr
      rw [hf] at hr
      rcases hr with hr | hr <;> cases hr
      rfl
  · intro r cs hr
    have hr : findD bs r = some (.vars cs) := hr
    obtain ⟨j, r', B0, _, _, _, _, _, _, hl⟩ := he.blocks r _ (findD_mem hr)
    exact hl cs rfl _

theorem entVs_uniq : ∀ {τs : List Ty} {i : Nat} {ds rest : List Dyn} {ts : List TV} {bs : List (Ref × TB)}, entVs τs i ds = some (ts, bs, rest) →
    (∀ q B, (q, B) ∈ bs → ∃ j, i ≤ j ∧ j < i + τs.length ∧ q = qn j) ∧ ∀ q a b, (q, a) ∈ bs → (q, b) ∈ bs → a = b
  | [], i, ds, rest, ts, bs, h => by cases h; exact ⟨by simp, by simp⟩
  | τ :: τs, i, [], rest, ts, bs, h => by cases h
  | τ :: τs, i, ⟨τ', x⟩ :: ds, rest, ts, bs, h => by
    simp only [entVs] at h
    split at h
    · rename_i h2
      cases h
      obtain ⟨k1, k2⟩ := entVs_uniq h2
      have no : ∀ B, (qn i, B) ∈ _ → False := fun B hm => by
        obtain ⟨j, hj, _, e⟩ := k1 _ B hm
        have := qn_inj e; omega
      refine ⟨fun q B hm => ?_, fun q a b ha hb => ?_⟩
      · rcases List.mem_cons.1 hm with e | hm
        · cases e; exact ⟨i, Nat.le_refl _, by simp, rfl⟩
        · obtain ⟨j, hj, hj2, e⟩ := k1 q B hm; exact ⟨j, by omega, by simp only [List.length_cons]; omega, e⟩
      · rcases List.mem_cons.1 ha with e | ha
        · rcases List.mem_cons.1 hb with e' | hb
          · cases e; cases e'; rfl
          · cases e; exact (no _ hb).elim
        · rcases List.mem_cons.1 hb with e' | hb
          · cases e'; exact (no _ ha).elim
          · exact k2 q a b ha hb
    · cases h

theorem ER.uniq : ∀ {as : List GA} {i : Nat} {ds : List Dyn} {ts : List TV} {bs : List (Ref × TB)}, entG as i ds = some (ts, bs) →
    (∀ q B, (q, B) ∈ bs → ∃ j, i ≤ j ∧ q = qn j) ∧ ∀ q a b, (q, a) ∈ bs → (q, b) ∈ bs → a = b := by
  intro as
  induction as with
  | nil => intro i ds ts bs h; cases h; exact ⟨by simp, by simp⟩
  | cons a as ih =>
    intro i ds ts bs h
    have step : ∀ {B0 : TB} {bs' : List (Ref × TB)}, ((∀ q B, (q, B) ∈ bs' → ∃ j, i + 1 ≤ j ∧ q = qn j) ∧ ∀ q a b, (q, a) ∈ bs' → (q, b) ∈ bs' → a = b) →
        (∀ q B, (q, B) ∈ (qn i, B0) :: bs' → ∃ j, i ≤ j ∧ q = qn j) ∧ ∀ q a b, (q, a) ∈ (qn i, B0) :: bs' → (q, b) ∈ (qn i, B0) :: bs' → a = b := by
      intro B0 bs' ⟨k1, k2⟩
      have no : ∀ B, (qn i, B) ∈ bs' → False := by
        intro B hm
        obtain ⟨j, hj, e⟩ := k1 _ B hm
        have := qn_inj e; omega
      refine ⟨fun q B hm => ?_, fun q a b ha hb => ?_⟩
      · rcases List.mem_cons.1 hm with e | hm
        · cases e; exact ⟨i, Nat.le_refl _, rfl⟩
        · obtain ⟨j, hj, e⟩ := k1 q B hm; exact ⟨j, by omega, e⟩
      · rcases List.mem_cons.1 ha with e | ha
        · rcases List.mem_cons.1 hb with e' | hb
          · cases e; cases e'; rfl
          · cases e; exact (no _ hb).elim
        · rcases List.mem_cons.1 hb with e' | hb
          · cases e'; exact (no _ ha).elim
          · exact k2 q a b ha hb
    simp only [entG] at h
    cases a with
    | imm a =>
      simp only at h
      split at h
      · split at h
        · rename_i h2; cases h; exact ih h2
        · cases h
      · cases h
    | var τ =>
      simp only at h
      split at h
      · split at h
        · rename_i h2; cases h; exact step (ih h2)
        · cases h
      · cases h
    | arr τ =>
      simp only at h
      split at h
      · split at h
        · rename_i h2; cases h; exact step (ih h2)
        · cases h
      · cases h
    | cloV fn τs =>
      simp only at h
      split at h
      · rename_i h1
        split at h
        · rename_i h2
          cases h
          obtain ⟨a1, a2⟩ := entVs_uniq h1
          obtain ⟨k1, k2⟩ := ih h2
          refine ⟨fun q B hm => ?_, fun q a b ha hb => ?_⟩
          · rcases List.mem_append.1 hm with hm | hm
            · obtain ⟨j, hj, _, e⟩ := a1 q B hm; exact ⟨j, hj, e⟩
            · obtain ⟨j, hj, e⟩ := k1 q B hm; exact ⟨j, by omega, e⟩
          · rcases List.mem_append.1 ha with ha | ha
            · rcases List.mem_append.1 hb with hb | hb
              · exact a2 q a b ha hb
              · obtain ⟨j, _, hj, e⟩ := a1 q a ha
                obtain ⟨j', hj', e'⟩ := k1 q b hb
                have := qn_inj (e.symm.trans e'); omega
            · rcases List.mem_append.1 hb with hb | hb
              · obtain ⟨j, _, hj, e⟩ := a1 q b hb
                obtain ⟨j', hj', e'⟩ := k1 q a ha
                have := qn_inj (e.symm.trans e'); omega
              · exact k2 q a b ha hb
        · cases h
      · cases h

theorem entG_len : ∀ {as : List GA} {i : Nat} {ds : List Dyn} {ts : List TV} {bs : List (Ref × TB)}, entG as i ds = some (ts, bs) → ts.length = as.length := by
  intro as
  induction as with
  | nil => intro i ds ts bs h; cases h; rfl
  | cons a as ih =>
    intro i ds ts bs h
    simp only [entG] at h
    cases a <;> simp only at h <;> (split at h <;> try cases h) <;> (split at h <;> try cases h) <;> (rename_i h2; simp only [List.length_cons, ih h2])

/-! ### Results with slices of one's own -/
theorem locX_some {blk : TBlk} {own : List Ref} {r : Ref} {B : TB} (h : locX blk own r = some B) : isLoc r = true ∧ r ∉ own ∧ blk r = some B := by
  unfold locX at h; split at h
  · rename_i e
    simp only [Bool.and_eq_true, Bool.not_eq_true'] at e
    have hn : r ∉ own := fun k => by
      have := memR_iff.2 k
      rw [e.2] at this; cases this
    exact ⟨e.1, hn, h⟩
  · cases h
theorem denB_locX {blk : TBlk} {own : List Ref} {r : Ref} {B : Block} (h : denB (locX blk own) r = some B) : isLoc r = true ∧ r ∉ own ∧ denB blk r = some B := by
  unfold denB at h
  obtain ⟨X, hX, rfl⟩ := Option.map_eq_some_iff.1 h
  obtain ⟨h1, h2, h3⟩ := locX_some hX
  exact ⟨h1, h2, by simp [denB, h3]⟩

def locs (d i : Nat) : Nat → List Ref
  | 0 => []
  | n + 1 => .loc d i :: locs d (i + 1) n
theorem locs_append (d : Nat) : ∀ (i m n : Nat), locs d i (m + n) = locs d i m ++ locs d (i + m) n
  | i, 0, n => by simp [locs]
  | i, m + 1, n => by
    rw [show m + 1 + n = (m + n) + 1 by omega]
    simp only [locs, locs_append d (i + 1) m n, List.cons_append]
    rw [show i + 1 + m = i + (m + 1) by omega]

theorem locs_mem {d : Nat} {r : Ref} : ∀ {i n : Nat}, r ∈ locs d i n → ∃ k, r = .loc d k ∧ i ≤ k ∧ k < i + n
  | i, 0, h => by cases h
  | i, n + 1, h => by
    rcases List.mem_cons.1 h with rfl | h
    · exact ⟨i, rfl, Nat.le_refl _, by omega⟩
    · obtain ⟨k, e, h1, h2⟩ := locs_mem h; exact ⟨k, e, by omega, by omega⟩
theorem locs_dist (d : Nat) : ∀ (i n : Nat), distR (locs d i n) = true
  | i, 0 => rfl
  | i, n + 1 => by
    simp only [locs, distR, Bool.and_eq_true, Bool.not_eq_true']
    refine ⟨?_, locs_dist d (i + 1) n⟩
    cases hm : memR (Ref.loc d i) (locs d (i + 1) n) with
    | false => rfl
    | true =>
      obtain ⟨k, e, h1, _⟩ := locs_mem (memR_iff.1 hm)
      cases e; omega
theorem dist_of_map {α : Type} {f : α → Ref} {l : List α} (hd : distR (l.map f) = true) {a b : α} (ha : a ∈ l) (hb : b ∈ l) (e : f a = f b) : a = b := by
  obtain ⟨i, hi⟩ := List.getElem?_of_mem ha
  obtain ⟨j, hj⟩ := List.getElem?_of_mem hb
  have h1 : (l.map f)[i]? = some (f a) := by simp [hi]
  have h2 : (l.map f)[j]? = some (f a) := by simp [hj, e]
  have := distR_get hd h1 h2
  subst this
  rw [hi] at hj; exact Option.some.inj hj

/-- What the new blocks stand for. -/
structure OB (keeps : List Bool) (blk : TBlk) (d i : Nat) (rs : List Ref) (N : List (Ref × Block)) (N1 : List (Ref × Ref × Block)) : Prop where
  map : N1.map (fun t => (t.1, t.2.2)) = N
  fst : N1.map (·.1) = locs d i rs.length
  snd : N1.map (·.2.1) = rs
  each : ∀ r q B, (r, q, B) ∈ N1 → (isDum q = true ∧ ∃ sz, B = .arr sz []) ∨ (refOk keeps q = true ∧ ∃ X, blk q = some X ∧ conRel X B)

theorem OB.append {keeps : List Bool} {blk : TBlk} {d i : Nat} {rs ss : List Ref} {N M : List (Ref × Block)} {N1 M1 : List (Ref × Ref × Block)} (h1 : OB keeps blk d i rs N N1) (h2 : OB keeps blk d (i + rs.length) ss M M1) :
    OB keeps blk d i (rs ++ ss) (N ++ M) (N1 ++ M1) := {
  map := by rw [List.map_append, h1.map, h2.map]
  fst := by rw [List.map_append, h1.fst, h2.fst, List.length_append, locs_append]
  snd := by rw [List.map_append, h1.snd, h2.snd]
  each := fun r q B hm => by
    rcases List.mem_append.1 hm with hm | hm
    · exact h1.each r q B hm
    · exact h2.each r q B hm }

section
variable {keeps : List Bool} {S : TSt} {own : List Ref} {d : Nat} {I1 I2 : Nat → Prop} {w' : World} {ρ1 ρ' : Ref → Pl}

/-- What is told of the data behind. -/
structure OL (S : TSt) (own : List Ref) (I1 I2 : Nat → Prop) (w' : World) (ρ1 : Ref → Pl) : Prop where
  rel : ∀ r B, denB S.blk r = some B → BRel I1 w' ρ1 r B
  mono : ∀ b, I1 b → I2 b
  live : ∀ q X b o ct sz, isLoc q = true → q ∉ own → denB S.blk q = some X → X.owned = true → ρ1 q = .at b o ct sz → I2 b

theorem OL.cap (H : OL S own I1 I2 w' ρ1) {bs : List Bool} {ts : List Ty} {vs : List TV} {ds : List Dyn} {xs : List Value} (h : capRes (locX S.blk own) bs ts vs = some ds) (hv : ∀ v ∈ vs, okV (lenOk S.blk) v) (hx : ARels I1 w' ρ1 (vs.map TV.den) xs) :
    VRels I2 w' ((tagged bs ds).map resPD) xs := by
  obtain ⟨k1, _⟩ := capRes_ok (L := lenOk S.blk) (fun r n hl τ rows hr => by
    rcases hr with hr | hr <;> exact hl.2 τ rows (by have := (locX_some hr).2.2; first | exact .inl this | exact .inr this)) h hv
  refine ARels.views (blk := denB (locX S.blk own)) (I' := I2) ?_ H.mono ?_ k1 hx
  · intro r B hr; exact H.rel r B (denB_locX hr).2.2
  · intro _ r B b o ct sz hr hO hp
    obtain ⟨g1, g0, g2⟩ := denB_locX hr
    exact H.live r B b o ct sz g1 g0 g2 hO hp

theorem finA_ok {i : Nat} {τ : Ty} {v : TV} {x : List τ.el} {q : Ref} (h : finA keeps S.blk i τ v = some (x, q)) (hv : okV (lenOk S.blk) v) :
    ((isDum q = true ∧ x = []) ∨ (refOk keeps q = true ∧ ∃ X, S.blk q = some X ∧ conRel X (.arr τ.sz (x.map (encC τ))))) ∧
      ∀ {y : Value} {r : Ref}, ARel I1 w' ρ1 v.den y → (ρ' r = if isDum q then .nilp else ρ1 q) → ARel I2 w' ρ' (.sl r τ.sz 0 x.length) y := by
  have ndum : ∀ {q : Ref}, refOk keeps q = true → isDum q = false := by
    intro q h
    unfold refOk at h
    split at h
    · rfl
    · rfl
    · cases h
  unfold finA at h
  split at h
  · cases h
    refine ⟨.inl ⟨rfl, rfl⟩, fun {y r} hy hr => ?_⟩
    simp only [TV.den, ARel] at hy
    subst hy
    simp only [isDum, dum, if_true] at hr
    simp only [ARel, List.length_nil]
    exact ⟨none, 0, rfl, Nat.le_refl _, fun _ => trivial, fun _ => by simp, fun b o ct sz' e => by rw [hr] at e; cases e⟩
  · rename_i r0 sz n
    split at h
    · rename_i τ' rows hb e2
      obtain ⟨z, hz, e⟩ := Option.map_eq_some_iff.1 h
      cases e
      rw [Bool.and_eq_true] at hb
      obtain ⟨c1, c2, c3⟩ := castSl hz
      subst c3
      have hnd := ndum hb.1
      have hlen := (show lenOk S.blk q n by simpa only [okV] using hv).2 _ _ (.inl e2)
      refine ⟨.inr ⟨hb.1, _, e2, _, .inr ⟨rows, rows.length, rfl, ?_⟩⟩, fun {y r} hy hr => ?_⟩
      · rw [List.take_of_length_le (Nat.le_refl _), c1]
      · rw [hnd] at hr
        simp only [Bool.false_eq_true, if_false] at hr
        simp only [TV.den, ARel] at hy ⊢
        rw [hr, c2, ← hlen]
        rw [Nat.eq_of_beq_eq_true hb.2] at hy
        exact hy
    · cases h
  · rename_i r0 sz off n
    split at h
    · rename_i τ' rows hb e2
      replace h := bindT_some h
      obtain ⟨rows', hw, h⟩ := h
      obtain ⟨z, hz, e⟩ := Option.map_eq_some_iff.1 h
      cases e
      rw [Bool.and_eq_true, Bool.and_eq_true] at hb
      obtain ⟨c1, c2, c3⟩ := castSl hz
      subst c3
      have hnd := ndum hb.1.1
      obtain ⟨w1, w2⟩ := window_some hw
      simp only [List.drop_zero, Nat.zero_add] at w1 w2
      have hrl : rows'.length = n := by rw [w2, List.length_take]; omega
      refine ⟨.inr ⟨hb.1.1, _, e2, _, .inr ⟨rows, n, rfl, ?_⟩⟩, fun {y r} hy hr => ?_⟩
      · rw [c1, w2]
      · rw [hnd] at hr
        simp only [Bool.false_eq_true, if_false] at hr
        simp only [TV.den, ARel] at hy ⊢
        rw [hr, c2, hrl]
        rw [Nat.eq_of_beq_eq_true hb.1.2, Nat.eq_of_beq_eq_true hb.2] at hy
        simpa using hy
    · cases h
  · cases h

theorem outCs_eq {α β : Type} {con : Bool × Ty → Dyn → Option β} {K : VK α} {τ : Ty} {cs : List OC} {i : Nat} {x : τ.el} {ds : List Dyn} {q : List α × List (Ref × β) × List Dyn × Nat} (h : outCs con K d (.dat τ :: cs) i (⟨τ, x⟩ :: ds) = some q) :
    ∃ vs N rest j, outCs con K d cs i ds = some (vs, N, rest, j) ∧ q = (K.leaf ⟨τ, x⟩ :: vs, N, rest, j) := by
  simp only [outCs, Ty.cast_self] at h
  split at h
  · rename_i e1 e2; cases e1; cases h; exact ⟨_, _, _, _, e2, rfl⟩
  · cases h

theorem finCs_out : ∀ {cs : List OC} {i : Nat} {vs : List TV} {ds rest0 : List Dyn} {rs : List Ref} {us : List AV} {N : List (Ref × Block)} {rest : List Dyn} {j : Nat}, finCs keeps S.blk own cs i vs = some (ds, rs) → (∀ v ∈ vs, okV (lenOk S.blk) v) →
    outCs conB vkA d cs i (ds ++ rest0) = some (us, N, rest, j) → rest = rest0 ∧ j = i + rs.length ∧ ∃ N1, OB keeps S.blk d i rs N N1 ∧
      ∀ (I1 I2 : Nat → Prop) (w' : World) (ρ1 ρ' : Ref → Pl), OL S own I1 I2 w' ρ1 → (∀ r q B, (r, q, B) ∈ N1 → ρ' r = if isDum q then .nilp else ρ1 q) → ∀ xs, ARels I1 w' ρ1 (vs.map TV.den) xs → ARels I2 w' ρ' us xs
  | [], i, [], ds, rest0, rs, us, N, rest, j, h, _, ho => by
    cases h; cases ho
    exact ⟨rfl, rfl, [], ⟨rfl, rfl, rfl, by simp⟩, fun _ _ _ _ _ _ _ xs hx => by simpa [ARels] using hx⟩
  | [], _, _ :: _, _, _, _, _, _, _, _, h, _, _ => by cases h
  | .dat _ :: _, _, [], _, _, _, _, _, _, _, h, _, _ => by cases h
  | .arr _ :: _, _, [], _, _, _, _, _, _, _, h, _, _ => by cases h
  | .dat τ :: cs, i, v :: vs, ds, rest0, rs, us, N, rest, j, h, hv, ho => by
    simp only [finCs] at h
    split at h
    case h_2 => cases h
    rename_i d1 ds' rs' h1 h2
    cases h
    have hl : ∃ x : τ.el, d1 = [⟨τ, x⟩] ∧ (SK.leaf τ).good = true := by
      simp only [capRes] at h1
      split at h1
      · rename_i hg
        replace h1 := bindT_some h1
        obtain ⟨x, _, h1⟩ := h1
        simp only [Option.map_some, Option.some.injEq] at h1
        exact ⟨x, h1.symm, hg⟩
      · cases h1
    obtain ⟨x, rfl, hg⟩ := hl
    simp only [List.cons_append, List.nil_append] at ho
    obtain ⟨us', N', rest', j', ho', e⟩ := outCs_eq ho
    cases e
    obtain ⟨a1, a2, N1, a3, a4⟩ := finCs_out h2 (fun u hu => hv u (by simp [hu])) ho'
    refine ⟨a1, a2, N1, a3, fun I1 I2 w' ρ1 ρ' H hρ xs hx => ?_⟩
    simp only [List.map_cons, ARels] at hx
    obtain ⟨y, ys, rfl, y1, y2⟩ := hx
    have hc := H.cap h1 (fun u hu => hv u (by simp at hu; simp [hu])) (xs := [y]) (by simp only [List.map_cons, List.map_nil, ARels]; exact ⟨y, [], rfl, y1, rfl⟩)
    simp only [tagged, List.map_cons, List.map_nil, VRels] at hc
    obtain ⟨z, zs, e, hz, _⟩ := hc
    cases e
    simp only [ARels, vkA]
    refine ⟨y, ys, rfl, ?_, a4 I1 I2 w' ρ1 ρ' H hρ ys y2⟩
    simp only [ARel]
    exact hz
  | .arr τ :: cs, i, v :: vs, ds, rest0, rs, us, N, rest, j, h, hv, ho => by
    simp only [finCs] at h
    split at h
    case h_2 => cases h
    rename_i x q ds' rs' h1 h2
    cases h
    simp only [List.cons_append, outCs, Ty.cast_self] at ho
    split at ho
    case h_2 => cases ho
    rename_i x' B us' N' rest' j' e1 hB ho'
    cases e1
    cases ho
    simp only [conB, Ty.cast_self, Option.map_some, Option.some.injEq] at hB
    subst hB
    obtain ⟨a1, a2, N1, a3, a4⟩ := finCs_out h2 (fun u hu => hv u (by simp [hu])) ho'
    have hv0 := hv v (by simp)
    refine ⟨a1, by simp only [List.length_cons]; omega, (.loc d i, q, .arr τ.sz (x.map (encC τ))) :: N1, ⟨?_, ?_, ?_, ?_⟩, fun I1 I2 w' ρ1 ρ' H hρ xs hx => ?_⟩
    · simp only [List.map_cons, a3.map]
    · simp only [List.map_cons, List.length_cons, locs, a3.fst]
    · simp only [List.map_cons, a3.snd]
    · intro r q' B hm
      rcases List.mem_cons.1 hm with e | hm
      · cases e
        rcases (finA_ok (I1 := fun _ => False) (I2 := fun _ => False) (w' := default) (ρ1 := fun _ => .gone) (ρ' := fun _ => .gone) h1 hv0).1 with ⟨k1, k2⟩ | k
        · exact .inl ⟨k1, τ.sz, by rw [k2]; rfl⟩
        · exact .inr k
      · exact a3.each r q' B hm
    · simp only [List.map_cons, ARels] at hx
      obtain ⟨y, ys, rfl, y1, y2⟩ := hx
      simp only [ARels, vkA]
      exact ⟨y, ys, rfl, (finA_ok h1 hv0).2 y1 (hρ _ _ _ List.mem_cons_self), a4 I1 I2 w' ρ1 ρ' H (fun r q B hm => hρ r q B (List.mem_cons_of_mem _ hm)) ys y2⟩

theorem finRs_out : ∀ {l : List OR} {i : Nat} {vs : List TV} {ds rest0 : List Dyn} {rs : List Ref} {us : List AV} {N : List (Ref × Block)} {rest : List Dyn} {j : Nat}, finRs keeps S.blk own l i vs = some (ds, rs) → (∀ v ∈ vs, okV (lenOk S.blk) v) →
    outRs conB vkA d l i (ds ++ rest0) = some (us, N, rest, j) → rest = rest0 ∧ j = i + rs.length ∧ ∃ N1, OB keeps S.blk d i rs N N1 ∧
      ∀ (I1 I2 : Nat → Prop) (w' : World) (ρ1 ρ' : Ref → Pl), OL S own I1 I2 w' ρ1 → (∀ r q B, (r, q, B) ∈ N1 → ρ' r = if isDum q then .nilp else ρ1 q) → ∀ xs, ARels I1 w' ρ1 (vs.map TV.den) xs → ARels I2 w' ρ' us xs
  | [], i, [], ds, rest0, rs, us, N, rest, j, h, _, ho => by
    cases h; cases ho
    exact ⟨rfl, rfl, [], ⟨rfl, rfl, rfl, by simp⟩, fun _ _ _ _ _ _ _ xs hx => by simpa [ARels] using hx⟩
  | [], _, _ :: _, _, _, _, _, _, _, _, h, _, _ => by cases h
  | .dat _ _ :: _, _, [], _, _, _, _, _, _, _, h, _, _ => by cases h
  | .cell _ :: _, _, [], _, _, _, _, _, _, _, h, _, _ => by cases h
  | .st _ :: _, _, [], _, _, _, _, _, _, _, h, _, _ => by cases h
  | .dat b τ :: l, i, v :: vs, ds, rest0, rs, us, N, rest, j, h, hv, ho => by
    simp only [finRs] at h
    split at h
    case h_2 => cases h
    rename_i d1 ds' rs' h1 h2
    cases h
    have hl : ∃ x, d1 = [x] := by
      have := capRes_length h1
      match d1, this with
      | [x], _ => exact ⟨x, rfl⟩
    obtain ⟨x, rfl⟩ := hl
    simp only [List.cons_append, List.nil_append, outRs] at ho
    split at ho
    case h_2 => cases ho
    rename_i us' N' rest' j' ho'
    cases ho
    obtain ⟨a1, a2, N1, a3, a4⟩ := finRs_out h2 (fun u hu => hv u (by simp [hu])) ho'
    refine ⟨a1, a2, N1, a3, fun I1 I2 w' ρ1 ρ' H hρ xs hx => ?_⟩
    simp only [List.map_cons, ARels] at hx
    obtain ⟨y, ys, rfl, y1, y2⟩ := hx
    have hc := H.cap h1 (fun u hu => hv u (by simp at hu; simp [hu])) (xs := [y]) (by simp only [List.map_cons, List.map_nil, ARels]; exact ⟨y, [], rfl, y1, rfl⟩)
    simp only [tagged, List.map_cons, List.map_nil, VRels] at hc
    obtain ⟨z, zs, e, hz, _⟩ := hc
    cases e
    simp only [ARels, vkA]
    refine ⟨y, ys, rfl, ?_, a4 I1 I2 w' ρ1 ρ' H hρ ys y2⟩
    simp only [ARel, outPD]
    exact hz
  | .cell c :: l, i, v :: vs, ds, rest0, rs, us, N, rest, j, h, hv, ho => by
    simp only [finRs] at h
    split at h
    case h_2 => cases h
    rename_i d1 r1 h1
    split at h
    case h_2 => cases h
    rename_i ds' rs' h2
    cases h
    simp only [outRs, List.append_assoc] at ho
    split at ho
    case h_2 => cases ho
    rename_i us1 N1' rest1 i1 ho1
    split at ho
    case h_2 => cases ho
    rename_i us2 N2' rest2 j2 ho2
    cases ho
    obtain ⟨a1, a2, M1, a3, a4⟩ := finCs_out h1 (fun u hu => hv u (by simp at hu; simp [hu])) ho1
    subst a1; subst a2
    obtain ⟨b1, b2, M2, b3, b4⟩ := finRs_out h2 (fun u hu => hv u (by simp [hu])) ho2
    refine ⟨b1, by simp only [List.length_append]; omega, M1 ++ M2, a3.append b3, fun I1 I2 w' ρ1 ρ' H hρ xs hx => ?_⟩
    simp only [List.map_cons, ARels] at hx
    obtain ⟨y, ys, rfl, y1, y2⟩ := hx
    have k1 := a4 I1 I2 w' ρ1 ρ' H (fun r q B hm => hρ r q B (List.mem_append.2 (.inl hm))) [y] (by simp only [List.map_cons, List.map_nil, ARels]; exact ⟨y, [], rfl, y1, rfl⟩)
    have k2 := b4 I1 I2 w' ρ1 ρ' H (fun r q B hm => hρ r q B (List.mem_append.2 (.inr hm))) ys y2
    exact k1.append k2
  | .st cs :: l, i, v :: vs, ds, rest0, rs, us, N, rest, j, h, hv, ho => by
    simp only [finRs] at h
    split at h
    case h_2 => cases h
    rename_i ws hag
    split at h
    case h_2 => cases h
    rename_i d1 r1 h1
    split at h
    case h_2 => cases h
    rename_i ds' rs' h2
    cases h
    simp only [outRs, List.append_assoc] at ho
    split at ho
    case h_2 => cases ho
    rename_i us1 N1' rest1 i1 ho1
    split at ho
    case h_2 => cases ho
    rename_i us2 N2' rest2 j2 ho2
    cases ho
    have hws : ∀ u ∈ ws, okV (lenOk S.blk) u := by
      have hv0 := hv v (by simp)
      unfold aggT at hag
      split at hag
      · cases hag; simp only [okV] at hv0; exact okVs_iff.1 hv0
      · cases hag; exact explode_ok _ _ _
      · cases hag
    obtain ⟨a1, a2, M1, a3, a4⟩ := finCs_out h1 hws ho1
    subst a1; subst a2
    obtain ⟨b1, b2, M2, b3, b4⟩ := finRs_out h2 (fun u hu => hv u (by simp [hu])) ho2
    refine ⟨b1, by simp only [List.length_append]; omega, M1 ++ M2, a3.append b3, fun I1 I2 w' ρ1 ρ' H hρ xs hx => ?_⟩
    simp only [List.map_cons, ARels] at hx
    obtain ⟨y, ys, rfl, y1, y2⟩ := hx
    obtain ⟨zs, rfl, z1, z2⟩ := aggA_rel (aggT_den hag) y1
    have k1 := a4 I1 I2 w' ρ1 ρ' H (fun r q B hm => hρ r q B (List.mem_append.2 (.inl hm))) zs.toList z2
    have k2 := b4 I1 I2 w' ρ1 ρ' H (fun r q B hm => hρ r q B (List.mem_append.2 (.inr hm))) ys y2
    simp only [ARels, vkA, ARel]
    exact ⟨_, ys, rfl, ⟨zs, rfl, z1, k1⟩, k2⟩
end

/-- The end of the run, for the caller. -/
theorem endQ {s : GSpec} {fn : Func} {I : Nat → Prop} {w w' : World} {ρ : Ref → Pl} {blk : Blk} {refs : List Ref} {d : Nat} {S : TSt} {a' : Act} {v : AV} {n1 n2 : List (Ref × Block)} {rest : List Dyn} {y : els s.rs} (h : HRel I ρ w blk)
    (hfr : freshFrom blk d = true) (hdist : distR refs = true) (hown : ∀ r ∈ refs, ∃ B, blk r = some B ∧ B.owned = true)
    (ho : outG conB vkA d s.res (unpack s.rs y) = some (v, n1, rest)) (hk : keptG conB (kindsG s.args) s.keeps refs rest = some n2)
    (hS : S.Ok) (hfin : finG P fn.results.toList (kindsG s.args) s.res s.keeps s.rs S = some y) (hs : SRel (ctxQ P w I refs blk ρ fn.ntmps) S.den a' w') :
    a'.defers = [] ∧ ∃ z, (results fn a'.tmps).run P w' = .ok z w' ∧ ∃ x I' ρ', Ending.returned z = .returned x ∧ HRel I' ρ' w' (overB .dead (n1 ++ n2) refs blk) ∧ ARel I' w' ρ' v x ∧ v.ok (dom (overB .dead (n1 ++ n2) refs blk)) ∧
      (∀ r, dom blk r → dom (overB .dead (n1 ++ n2) refs blk) r) ∧ Later (dom blk) ρ ρ' ∧
      (∀ b, I b → I' b) ∧ (∀ b, I b → w'.heap[b]? = w.heap[b]?) ∧ (∀ b, I' b → I b ∨ w.heap.size ≤ b ∨ Held (fun _ => True) blk ρ b) ∧
      Frame (fun b => ¬ Held (fun _ => True) blk ρ b) w w' ∧ (∀ b, Held (fun _ => True) (overB .dead (n1 ++ n2) refs blk) ρ' b → w.heap.size ≤ b ∨ Held (fun _ => True) blk ρ b) := by
  obtain ⟨I1, ρ1, hs⟩ := hs
  unfold finG at hfin
  replace hfin := bindT_some hfin
  obtain ⟨vs, hvs, hfin⟩ := hfin
  obtain ⟨d1, hd1, hfin⟩ := finRK_some hfin
  replace hfin := bindT_some hfin
  obtain ⟨d2, hd2, hfin⟩ := hfin
  rw [unpack_pack _ _ _ hfin] at ho
  obtain ⟨m1, m2⟩ := resTV_ok hS hvs
  obtain ⟨ys, r1, r2, r3⟩ := res_run hs m1
  replace r3 : (results fn a'.tmps).run P w' = .ok (resOf ys) w' := r3
  have hfresh : ∀ k, k < 4 → blk (.loc d k) = none := by
    intro k hk
    simp only [freshFrom, Bool.and_eq_true, Option.isNone_iff_eq_none] at hfr
    match k, hk with
    | 0, _ => exact hfr.1.1.1
    | 1, _ => exact hfr.1.1.2
    | 2, _ => exact hfr.1.2
    | 3, _ => exact hfr.2
  let ρ2 : Ref → Pl := fun q => if isDum q then .nilp else ρ1 q
  have locOk : ∀ q, isLoc q = true → refOk s.keeps q = true ∧ isDum q = false := by
    intro q hq
    cases q with
    | loc i j => exact ⟨rfl, rfl⟩
    | out r => cases hq
  have okDum : ∀ q, refOk s.keeps q = true → isDum q = false := by
    intro q hq
    unfold refOk at hq
    split at hq
    · rfl
    · rfl
    · cases hq
  -- what the function made, under the caller's names
  have key : ∃ N1 : List (Ref × Ref × Block), N1.map (fun t => (t.1, t.2.2)) = n1 ∧ rest = d2 ∧
      (∀ r q B, (r, q, B) ∈ N1 → (∃ k, r = .loc d k ∧ k < 4) ∧ ((isDum q = true ∧ ∃ sz, B = .arr sz []) ∨ (refOk s.keeps q = true ∧ ∃ X, S.blk q = some X ∧ conRel X B))) ∧
      (∀ r q B r' q' B', (r, q, B) ∈ N1 → (r', q', B') ∈ N1 → (r = r' → q = q') ∧ (q = q' → r = r')) ∧
      ∀ (I2 : Nat → Prop) (ρ' : Ref → Pl), (∀ b, I1 b → I2 b) → (∀ r q B, (r, q, B) ∈ N1 → ρ' r = ρ2 q) →
        (∀ q X b o ct sz, isLoc q = true → (∀ r B, (r, q, B) ∉ N1) → denB S.blk q = some X → X.owned = true → ρ1 q = .at b o ct sz → I2 b) →
        ARel I2 w' ρ' v (resOf ys) := by
    cases hres : s.res with
    | imm bs =>
      rw [hres] at ho hd1
      simp only [outG, Option.some.injEq, Prod.mk.injEq] at ho
      obtain ⟨rfl, rfl, rfl⟩ := ho
      simp only [finR] at hd1
      have hl := capRes_length hd1
      refine ⟨[], rfl, by rw [List.drop_append, List.drop_of_length_le (by omega), hl]; simp, by simp, by simp, ?_⟩
      intro I2 ρ' hI _ hlive
      rw [List.take_append_of_le_length (by omega), List.take_of_length_le (by omega)]
      simp only [vkA, ARel]
      obtain ⟨k1, _⟩ := capRes_ok (L := lenOk S.blk) (fun r n hl τ rows hr => by
        rcases hr with hr | hr <;> exact hl.2 τ rows (by have := (locB_some hr).2; first | exact .inl this | exact .inr this)) hd1 m2
      refine out_rel (ARels.views (blk := denB (locB S.blk)) (I' := I2) ?_ hI ?_ k1 r1)
      · intro r B hr; exact hs.heap.rel r B (denB_loc hr).2
      · intro _ r B b o ct sz hr hO hp
        obtain ⟨g1, g2⟩ := denB_loc hr
        exact hlive r B b o ct sz g1 (by simp) g2 hO hp
    | newv τ =>
      rw [hres] at ho hd1
      simp only [finR] at hd1
      split at hd1
      case h_2 => cases hd1
      rename_i r off
      split at hd1
      case h_2 => cases hd1
      rename_i dd hb hf
      simp only [Bool.and_eq_true] at hb
      cases hd1
      simp only [List.cons_append, List.nil_append, outG] at ho
      split at ho
      case h_2 => cases ho
      rename_i B hB
      cases ho
      obtain ⟨X, x1, x2⟩ := finB_con hf hB
      refine ⟨[(.loc d 0, r, B)], rfl, rfl, ?_, ?_, ?_⟩
      · intro r' q B' hm; simp at hm; obtain ⟨rfl, rfl, rfl⟩ := hm; exact ⟨⟨0, rfl, by omega⟩, .inr ⟨(locOk _ hb.1).1, X, x1, x2⟩⟩
      · intro r' q B' r'' q' B'' hm hm'; simp at hm hm'; exact ⟨fun _ => by rw [hm.2.1, hm'.2.1], fun _ => by rw [hm.1, hm'.1]⟩
      · intro I2 ρ' hI hρ _
        have := hρ _ _ _ (List.mem_singleton.2 rfl)
        simp only [ρ2, (locOk _ hb.1).2, Bool.false_eq_true, if_false] at this
        simp only [List.map_cons, List.map_nil, ARels, TV.den] at r1
        obtain ⟨y0, _, rfl, hy, rfl⟩ := r1
        simp only [vkA, ARel, resOf] at hy ⊢
        rw [this]
        rw [Nat.eq_of_beq_eq_true hb.2] at hy
        exact hy
    | newa τ =>
      rw [hres] at ho hd1
      simp only [finR] at hd1
      split at hd1
      case h_2 => cases hd1
      rename_i r sz m
      split at hd1
      case h_2 => cases hd1
      rename_i dd hb hf
      simp only [Bool.and_eq_true] at hb
      cases hd1
      obtain ⟨τ', x⟩ := dd
      simp only [List.cons_append, List.nil_append, outG] at ho
      cases hz : Ty.cast τ' (.sl τ) x with
      | none => rw [hz] at ho; cases ho
      | some z =>
      rw [hz] at ho
      cases hB : conB (false, τ) ⟨τ', x⟩ with
      | none => rw [hB] at ho; cases ho
      | some B =>
      rw [hB] at ho
      cases ho
      obtain ⟨X, x1, x2⟩ := finB_con hf hB
      refine ⟨[(.loc d 0, r, B)], rfl, rfl, ?_, ?_, ?_⟩
      · intro r' q B' hm; simp at hm; obtain ⟨rfl, rfl, rfl⟩ := hm; exact ⟨⟨0, rfl, by omega⟩, .inr ⟨(locOk _ hb.1).1, X, x1, x2⟩⟩
      · intro r' q B' r'' q' B'' hm hm'; simp at hm hm'; exact ⟨fun _ => by rw [hm.2.1, hm'.2.1], fun _ => by rw [hm.1, hm'.1]⟩
      · intro I2 ρ' hI hρ _
        have := hρ _ _ _ (List.mem_singleton.2 rfl)
        simp only [ρ2, (locOk _ hb.1).2, Bool.false_eq_true, if_false] at this
        simp only [List.map_cons, List.map_nil, ARels, TV.den] at r1
        obtain ⟨y0, _, rfl, hy, rfl⟩ := r1
        have hlen : m = List.length z := by
          have hv := m2 (.slw r sz m) (by simp)
          simp only [okV] at hv
          unfold finB at hf
          split at hf
          · rename_i e2 e3
            cases e2
          · rename_i τ2 τ3 rows e2 e3
            cases e2
            obtain ⟨u, hu, e4⟩ := Option.map_eq_some_iff.1 hf
            cases e4
            rw [Ty.cast_self] at hz
            cases hz
            obtain ⟨_, c2, _⟩ := castSl hu
            rw [hv.2 _ _ (.inl e3)]; exact c2.symm
          · cases hf
        simp only [vkA, ARel, resOf] at hy ⊢
        rw [this, ← hlen]
        rw [Nat.eq_of_beq_eq_true hb.2] at hy
        exact hy
    | own l =>
      rw [hres] at ho hd1
      simp only [finR] at hd1
      split at hd1
      case h_2 => cases hd1
      rename_i ds rs hfr
      split at hd1
      case h_2 => cases hd1
      rename_i hck
      cases hd1
      simp only [Bool.and_eq_true] at hck
      simp only [outG] at ho
      split at ho
      case h_2 => cases ho
      rename_i us N rest' j hout
      split at ho
      case h_2 => cases ho
      rename_i hj
      cases ho
      obtain ⟨e1, e2, N1, hN1, hval⟩ := finRs_out hfr m2 hout
      have hj := Nat.le_of_ble_eq_true hj
      refine ⟨N1, hN1.map, e1, fun r q B hm => ⟨?_, hN1.each r q B hm⟩, fun r q B r' q' B' hm hm' => ⟨?_, ?_⟩, ?_⟩
      · have : r ∈ N1.map (·.1) := List.mem_map.2 ⟨_, hm, rfl⟩
        rw [hN1.fst] at this
        obtain ⟨k, e, _, hk⟩ := locs_mem this
        exact ⟨k, e, by omega⟩
      · intro e
        have := dist_of_map (f := fun t : Ref × Ref × Block => t.1) (by rw [hN1.fst]; exact locs_dist _ _ _) hm hm' e
        cases this; rfl
      · intro e
        have := dist_of_map (f := fun t : Ref × Ref × Block => t.2.1) (by rw [hN1.snd]; exact hck.1) hm hm' e
        cases this; rfl
      · intro I2 ρ' hI hρ hlive
        have hR := hval I1 I2 w' ρ1 ρ' ⟨hs.heap.rel, hI, fun q X b o ct sz g1 g2 g3 g4 g5 => hlive q X b o ct sz g1 (fun r B hm => by
          have : q ∈ N1.map (·.2.1) := List.mem_map.2 ⟨_, hm, rfl⟩
          rw [hN1.snd] at this
          rcases subOwn_mem hck.2 q this with k | k
          · rw [(locOk q g1).2] at k; cases k
          · exact g2 k) g3 g4 g5⟩ hρ ys r1
        unfold oneOf
        split
        · rename_i u
          simp only [ARels] at hR
          obtain ⟨y0, _, rfl, hy, rfl⟩ := hR
          exact hy
        · rename_i hne
          have : resOf ys = .tuple ys.toArray := by
            have hlen := hR.length
            unfold resOf
            split
            · rename_i x
              simp only [List.length_cons, List.length_nil] at hlen
              match us, hlen with
              | [u], _ => exact (hne u rfl).elim
            · rfl
          rw [this]
          simp only [vkA, ARel]
          exact ⟨_, rfl, by simpa using hR⟩
  obtain ⟨N1, hN1, rfl, hN1p, hN1q, hval⟩ := key
  obtain ⟨N2, hN2, hN2p⟩ := finK_N hd2 hk
  have hNp : ∀ r q B, (r, q, B) ∈ N1 ++ N2 → (((∃ j, refs[j]? = some r ∧ q = qn j ∧ s.keeps[j]? = some true)) ∧ (r, q, B) ∈ N2 ∨ (∃ k, r = .loc d k ∧ k < 4) ∧ (r, q, B) ∈ N1) ∧
      ((isDum q = true ∧ ∃ sz, B = .arr sz []) ∨ (isDum q = false ∧ ∃ X, S.blk q = some X ∧ conRel X B)) := by
    intro r q B hm
    rcases List.mem_append.1 hm with hm | hm
    · obtain ⟨e1, e2⟩ := hN1p r q B hm
      refine ⟨.inr ⟨e1, hm⟩, ?_⟩
      rcases e2 with e2 | ⟨e2, e3⟩
      · exact .inl e2
      · exact .inr ⟨okDum q e2, e3⟩
    · obtain ⟨j, X, e1, e2, e3, e4, e5⟩ := hN2p r q B hm
      rw [Nat.zero_add] at e2
      exact ⟨.inl ⟨⟨j, e1, e2, e5⟩, hm⟩, .inr ⟨by rw [e2]; rfl, X, e3, e4⟩⟩
  -- a block that was handed out is not one that was kept
  have apart12 : ∀ r q B r' B', (r, q, B) ∈ N1 → (r', q, B') ∈ N2 → False := by
    intro r q B r' B' h1 h2
    obtain ⟨j, X, _, e2, _, _, e5⟩ := hN2p r' q B' h2
    rw [Nat.zero_add] at e2
    subst e2
    rcases (hN1p r _ B h1).2 with ⟨k, _⟩ | ⟨k, _⟩
    · cases k
    · simp only [qn, refOk, e5, Bool.false_eq_true] at k
  let I2 : Nat → Prop := fun b => I1 b ∨ ∃ q X o ct sz, isLoc q = true ∧ (∀ r B, (r, q, B) ∉ N1) ∧ denB S.blk q = some X ∧ X.owned = true ∧ ρ1 q = .at b o ct sz
  have hden : ∀ {q X}, S.blk q = some X → S.den.blk q = some X.den := by intro q X hq; simp only [TSt.den, denB, hq, Option.map_some]
  have ρ2f : ∀ {q}, isDum q = false → ρ2 q = ρ1 q := by intro q hq; simp only [ρ2, hq, Bool.false_eq_true, if_false]
  have ρ2t : ∀ {q}, isDum q = true → ρ2 q = .nilp := by intro q hq; simp only [ρ2, hq, if_true]
  have notI2 : ∀ r q B X, (r, q, B) ∈ N1 ++ N2 → S.blk q = some X → conRel X B → ∀ b o ct sz, ρ1 q = .at b o ct sz → ¬ I2 b := by
    intro r q B X hm hX hc b o ct sz hp hb
    rcases hb with hb | ⟨q', X', o', ct', sz', g1, g2, g3, g4, g5⟩
    · exact (hs.heap.placed_lt (hden hX) hc.facts.1 hp).2 hb
    · have := hs.heap.inj q q' X.den X' b _ _ _ _ _ _ (hden hX) hc.facts.1 g3 g4 hp g5
      subst this
      rcases List.mem_append.1 hm with hm | hm
      · exact g2 _ B hm
      · obtain ⟨j, X2, _, e2, _⟩ := hN2p _ q B hm
        subst e2; cases g1
  obtain ⟨ρ', heap', hρ', hdom, hlater, c1, c2, c3, c4, c5⟩ := endX_rel (I' := I2) (ρ1 := ρ2) (R := zipQ 0 refs) (N := N1 ++ N2) h (ctxQ P w I refs blk ρ fn.ntmps).fix rfl
    (fun b hb => .inl (hs.old b hb)) hs.frame
    (by
      rintro b (hb | ⟨q, X, o, ct, sz, _, _, g3, g4, g5⟩)
      · exact hs.heap.imm b hb
      · exact (hs.heap.placed_lt g3 g4 g5).1)
    (by
      rintro b (hb | ⟨q, X, o, ct, sz, _, _, g3, g4, g5⟩)
      · exact hs.new b hb
      · rcases Classical.em ((ctxQ P w I refs blk ρ fn.ntmps).fix b) with k | k
        · exact .inr (.inl (hs.own q X b _ _ _ g3 g4 g5 k))
        · exact .inr (.inr k))
    (by
      intro r q B hm
      obtain ⟨hn, hq⟩ := hNp r q B hm
      rcases hq with ⟨hq, sz, rfl⟩ | ⟨hq, X, hX, hc⟩
      · refine ⟨?_, trivial, fun ρ' e => ?_, fun _ b o ct sz hp _ => by rw [ρ2t hq] at hp; cases hp⟩
        · rcases hn with ⟨⟨j, hj, rfl, _⟩, _⟩ | ⟨⟨k, rfl, hk⟩, _⟩
          · cases hq
          · exact .inr (hfresh k hk)
        · rw [ρ2t hq] at e; exact .inl ⟨rfl, e⟩
      obtain ⟨f1, f2, f3⟩ := hc.facts
      rw [ρ2f hq]
      refine ⟨?_, f2, fun ρ' e => f3 (hs.heap.rel q _ (hden hX)) (fun b hb => .inl hb) (notI2 r q B X hm hX hc) e, fun _ b o ct sz hp hf => hs.own q _ b _ _ _ (hden hX) f1 hp hf⟩
      rcases hn with ⟨⟨j, hj, rfl, _⟩, _⟩ | ⟨⟨k, rfl, hk⟩, _⟩
      · left
        have hlt := (List.getElem?_eq_some_iff.1 hj).1
        have := (hs.tied (qn j) ⟨j, hlt, rfl⟩).2
        rw [show (ctxQ P w I refs blk ρ fn.ntmps).ρ0 = placeQ ρ refs from rfl, placeQ_qn hj] at this
        exact ⟨by have := zipQ_get (i := 0) hj; simpa using this, this⟩
      · exact .inr (hfresh k hk))
    (by
      intro r q B r' q' B' b o ct sz o' ct' sz' hm hO hm' hO' hp hp'
      obtain ⟨hn, hq⟩ := hNp r q B hm
      obtain ⟨hn', hq'⟩ := hNp r' q' B' hm'
      rcases hq with ⟨hq, _⟩ | ⟨hq, X, hX, hc⟩
      · rw [ρ2t hq] at hp; cases hp
      rcases hq' with ⟨hq', _⟩ | ⟨hq', X', hX', hc'⟩
      · rw [ρ2t hq'] at hp'; cases hp'
      rw [ρ2f hq] at hp
      rw [ρ2f hq'] at hp'
      have := hs.heap.inj q q' X.den X'.den b _ _ _ _ _ _ (hden hX) hc.facts.1 (hden hX') hc'.facts.1 hp hp'
      subst this
      rcases hn with ⟨⟨j, hj, rfl, _⟩, hm1⟩ | ⟨_, hm1⟩
      · rcases hn' with ⟨⟨j', hj', e, _⟩, _⟩ | ⟨_, hm2⟩
        · have := qn_inj e; subst this; rw [hj] at hj'; exact Option.some.inj hj'
        · exact (apart12 _ _ _ _ _ hm2 hm1).elim
      · rcases hn' with ⟨_, hm2⟩ | ⟨_, hm2⟩
        · exact (apart12 _ _ _ _ _ hm1 hm2).elim
        · exact (hN1q _ _ _ _ _ _ hm1 hm2).2 rfl)
  have hov : overX (N1 ++ N2) (zipQ 0 refs) blk = overB .dead (n1 ++ n2) refs blk := by rw [overX_eq, List.map_append, hN1, hN2]
  rw [hov] at heap' hdom c5
  refine ⟨hs.defers, _, r3, _, I2, ρ', rfl, heap', ?_, ?_, hdom, hlater, c1, c2, c3, c4, c5⟩
  · refine hval I2 ρ' (fun b hb => .inl hb) (fun r q B hm => ?_) (fun q X b o ct sz g1 g2 g3 g4 g5 => .inr ⟨q, X, o, ct, sz, g1, g2, g3, g4, g5⟩)
    obtain ⟨⟨k, rfl, hk⟩, _⟩ := hN1p r q B hm
    cases hf : findO (N1 ++ N2) (.loc d k) with
    | none => exact (findO_none hf (q, B) (List.mem_append.2 (.inl hm))).elim
    | some qB =>
      obtain ⟨q', B'⟩ := qB
      have := findO_mem hf
      rcases List.mem_append.1 this with g | g
      · rw [(hN1q _ q B _ q' B' hm g).1 rfl]; exact hρ' _ _ _ hf
      · obtain ⟨j, _, e1, _⟩ := hN2p _ _ _ g
        obtain ⟨B0, hB0, _⟩ := hown _ (List.mem_of_getElem? e1)
        rw [hfresh k hk] at hB0; cases hB0
  · refine (outG_names ho).2 _ fun r B hm => ?_
    unfold dom overB
    rw [findD_append]
    cases hf : findD n1 r with
    | some X => rfl
    | none => exact (findD_none hf B hm).elim

theorem okG_enters {f : FuncId} {as : List GA} (h : okG P TΓ f as = true) : Enters P f := by
  unfold okG at h
  split at h
  · cases h
  rename_i fn hf
  split at h
  · cases h
  rename_i c hb
  simp only [Bool.and_eq_true, Bool.not_eq_true'] at h
  exact ⟨fn, c, hf, h.2, hb⟩

/-- The contract of a function that works on blocks of its callers'. -/
theorem gsoundT (hm : P.follows .mixedOrders = true) (hΓ : GamOk P Γ) (hD : DirectAll Γ) (hT : GamT Γ TΓ) (hn : ∀ f, TΓ f = none → Γ f = none) {f : FuncId} (H : Hints) (s : GSpec) (hok : okG P TΓ f s.args = true)
    (h : ∀ x y, s.F x = some y → runGT P TΓ f H s.args s.ts s.res s.keeps s.rs x = some y) : GSound P f s.lift := {
  calls := by
    intro d args blk v blk' hg hfr I ρ w xs hrel hargs hx
    obtain ⟨ds, refs, x, y, n1, rest, n2, hc, hdist, hpk, hF, ho, hk, rfl⟩ := GSpec.lift_parts hg
    have hrun := h x y hF
    unfold runGT at hrun
    unfold okG at hok
    split at hok
    · cases hok
    rename_i fn hf
    rw [hf] at hrun
    simp only at hrun
    split at hok
    · cases hok
    rename_i c hb
    rw [hb] at hrun
    simp only at hrun
    simp only [Bool.and_eq_true, Bool.not_eq_true'] at hok
    obtain ⟨⟨⟨hd, hgood⟩, hlen⟩, hname⟩ := hok
    have hlen := Nat.le_of_ble_eq_true hlen
    rw [unpack_pack _ _ _ hpk] at hrun
    obtain ⟨ts, bs, e1, e2⟩ := entG_rel (ρq := placeQ ρ refs) hrel.rel (i := 0) hgood hc hx (fun j r hj => by rw [Nat.zero_add]; exact placeQ_qn hj)
    rw [e1] at hrun
    simp only at hrun
    have hu := ER.uniq e1
    obtain ⟨hent, hstok⟩ := entryQ_rel (P := P) (n := fn.ntmps) hrel hdist e2 (by rw [entG_len e1]; exact hlen) hu.2
    have hdr : drawOkD P Γ c = true := by rw [← drawOkD_congr (fun g => skel_isG hT hn g)]; exact hd
    have key := comp_ok (C := ctxQ P w I refs blk ρ fn.ntmps) (outs := outsG (kindsG s.args) 0) (H := H) hm hΓ hD hT hn (by
      rintro q ⟨j, hj, rfl⟩
      exact outsG_mem ⟨j, by rw [← capGs_kinds hc]; exact hj, by simp⟩) c _ _ _ _ _ _ hdr hrun hstok
    refine calls_of_wp hf hb (Go.wp_mono (key _ w hent) ?_)
    intro e a' w' hx'
    cases e with
    | normal =>
      obtain ⟨s', ⟨o', e, hok, hk2⟩, hs'⟩ := hx'
      cases o' <;> cases e
      exact endQ hrel hfr hdist (capGs_dom hc) ho hk hok hk2 hs'
    | exit i =>
      obtain ⟨s', ⟨o', e, hok, hk2⟩, hs'⟩ := hx'
      cases o' <;> cases e
      cases hk2
    | ret =>
      obtain ⟨s', ⟨o', e, hok, hk2⟩, hs'⟩ := hx'
      cases o' <;> cases e
      exact endQ hrel hfr hdist (capGs_dom hc) ho hk hok hk2 hs'
    | _ => exact hx'.elim
  lone := fun he hd ha hb => s.lift_lone he hd ha hb
  news := fun hg e he hd => s.lift_news hg e he hd
  ok := fun hg _ hb => s.lift_ok hg hb }

end
end Go.Abs

/- What a typed function writes: what its arguments name, and new blocks. -/
namespace Go.Abs

theorem capVs_refs {blk : Blk} : ∀ {τs : List Ty} {vs : List AV} {ds : List Dyn} {rs : List Ref}, capVs blk τs vs = some (ds, rs) → ∀ r ∈ rs, r ∈ AV.namess vs
  | [], [], ds, rs, h => by cases h; simp
  | [], _ :: _, _, _, h => by cases h
  | _ :: _, [], _, _, h => by cases h
  | τ :: τs, v :: vs, ds, rs, h => by
    simp only [capVs] at h
    split at h
    case h_2 => cases h
    rename_i d r0 ds2 rs2 h1 h2
    cases h
    obtain ⟨cs, es, y, rfl, hr, _⟩ := capV1_some h1
    intro r hm
    simp only [AV.namess, AV.names, List.mem_append]
    rcases List.mem_cons.1 hm with rfl | hm
    · exact .inl (by simp)
    · exact .inr (capVs_refs h2 r hm)

theorem capG1_refs {blk : Blk} {a : GA} {v : AV} {ds : List Dyn} {rs : List Ref} (h : capG1 blk a v = some (ds, rs)) : ∀ r ∈ rs, r ∈ AV.names v := by
  cases a with
  | imm a =>
    simp only [capG1, Option.bind_eq_some_iff, Option.map_eq_some_iff] at h
    obtain ⟨_, _, _, _, h⟩ := h
    cases h; simp
  | var τ =>
    simp only [capG1] at h
    split at h
    case h_2 => cases h
    split at h
    case h_2 => cases h
    split at h
    case h_2 => cases h
    simp only [Option.bind_eq_some_iff, Option.map_eq_some_iff] at h
    obtain ⟨_, _, _, _, h⟩ := h
    cases h
    simp [AV.names]
  | arr τ =>
    simp only [capG1] at h
    repeat' (split at h)
    all_goals first
      | cases h; done
      | (simp only [Option.bind_eq_some_iff, Option.map_eq_some_iff] at h
         obtain ⟨_, _, h⟩ := h
         cases h
         simp [AV.names])
      | (cases h; simp [AV.names])
  | cloV fn τs =>
    simp only [capG1] at h
    split at h
    case h_2 => cases h
    split at h
    case h_2 => cases h
    intro r hr
    simp only [AV.names, List.mem_append]
    exact .inr (capVs_refs h r hr)

theorem capGs_refs {blk : Blk} : ∀ {as : List GA} {vs : List AV} {ds : List Dyn} {rs : List Ref}, capGs blk as vs = some (ds, rs) → ∀ r ∈ rs, r ∈ AV.namess vs
  | [], [], ds, rs, h => by cases h; simp
  | a :: as, v :: vs, ds, rs, h => by
    simp only [capGs] at h
    split at h
    case h_2 => cases h
    rename_i h1 h2
    cases h
    intro r hr
    simp only [AV.namess, List.mem_append]
    rcases List.mem_append.1 hr with hr | hr
    · exact .inl (capG1_refs h1 r hr)
    · exact .inr (capGs_refs h2 r hr)
  | [], _ :: _, _, _, h => by cases h
  | _ :: _, [], _, _, h => by cases h

theorem D_find_none {β : Type} {r : Ref} : ∀ {N : List (Ref × β)}, (∀ q ∈ N, q.1 ≠ r) → findD N r = none
  | [], _ => rfl
  | (k, B) :: N, h => by
    have h1 := h (k, B) (by simp)
    simp only [findD]
    rw [if_neg (fun e => h1 e.symm)]
    exact D_find_none fun q hq => h q (by simp [hq])

theorem D_kept_keys {β : Type} {con : Bool × Ty → Dyn → Option β} : ∀ {ks : List (Bool × Ty)} {bs : List Bool} {rs : List Ref} {ds : List Dyn} {N : List (Ref × β)}, keptG con ks bs rs ds = some N → ∀ q ∈ N, q.1 ∈ rs
  | ks, bs, rs, ds, N, h => by
    induction ks generalizing bs rs ds N with
    | nil =>
      cases bs <;> cases rs <;> cases ds <;> simp only [keptG] at h <;> cases h
      simp
    | cons k ks ih =>
      cases bs with
      | nil => simp only [keptG] at h; cases h
      | cons b bs =>
        cases rs with
        | nil => simp only [keptG] at h; cases h
        | cons r rs =>
          simp only [keptG] at h
          split at h
          · split at h
            · split at h
              · rename_i l hl
                cases h
                intro q hq
                rcases List.mem_cons.1 hq with rfl | hq
                · simp
                · exact List.mem_cons_of_mem _ (ih _ _ _ _ hl q hq)
              · cases h
            · cases h
          · intro q hq; exact List.mem_cons_of_mem _ (ih _ _ _ _ h q hq)

theorem D_memR {r : Ref} : ∀ {l : List Ref}, memR r l = true ↔ r ∈ l
  | [] => by simp [memR]
  | x :: l => by simp [memR, D_memR (l := l)]

theorem GSpec.direct (s : GSpec) : Direct s.lift := by
  intro d args blk v blk' h r hr hd
  unfold GSpec.lift at h
  split at h
  · cases h
  rename_i ds refs hc
  split at h
  case h_2 => cases h
  split at h
  case h_2 => cases h
  split at h
  case h_2 => cases h
  rename_i v' n1 rest ho
  split at h
  case h_2 => cases h
  rename_i n2 hk
  cases h
  have hrr : r ∉ refs := fun k => hr (capGs_refs hc r k)
  unfold overB
  rw [D_find_none]
  · have : memR r refs = false := by
      cases e : memR r refs with
      | false => rfl
      | true => exact (hrr (D_memR.1 e)).elim
    simp only [this]
  · intro q hq
    rcases List.mem_append.1 hq with hq | hq
    · obtain ⟨⟨i, e, hi⟩, _⟩ := (outG_new ho).1 q.1 q.2 hq; exact fun k => hd i hi (k ▸ e)
    · exact fun e => hrr (e ▸ D_kept_keys hk q hq)

theorem liftGs_direct (l : List GSpec) : Direct (liftGs l) := by
  intro d args blk v blk' h
  unfold liftGs at h
  split at h
  · exact GSpec.direct _ d args blk v blk' h
  · cases h
end Go.Abs

/- Tables of functions. -/
namespace Go.Abs
open Go.RowKit

inductive Ent where
  | p (l : List PSpec)
  | g (l : List GSpec)
abbrev FTab := List (FuncId × Ent)
def findE : FTab → FuncId → Option Ent
  | [], _ => none
  | (k, e) :: l, f => match Nat.beq f k with
    | true => some e
    | false => findE l f
def gamOf (T : FTab) : Gam := fun f => match findE T f with
  | some (.p l) => some (.p (liftPs l))
  | some (.g l) => some (.g (liftGs l))
  | none => none
def tgamOf (T : FTab) : TGam := fun f => match findE T f with
  | some (.p l) => some (.p fun blk args K => callPT l blk args K)
  | some (.g l) => some (.g fun d blk args K => callGT l d blk args K)
  | none => none

theorem gamOf_direct (T : FTab) : DirectAll (gamOf T) := by
  intro f G h
  unfold gamOf at h
  split at h
  · cases h
  · rename_i l _; cases h; exact liftGs_direct l
  · cases h

theorem gamT_of (T : FTab) : GamT (gamOf T) (tgamOf T) := by
  intro f s h
  unfold tgamOf at h
  split at h
  · rename_i l e
    cases h
    have hG : gamOf T f = some (.p (liftPs l)) := by unfold gamOf; rw [e]
    exact ⟨⟨_, hG⟩, fun R blk args K x hc ha => callPT_ok hG hc ha⟩
  · rename_i l e
    cases h
    have hG : gamOf T f = some (.g (liftGs l)) := by unfold gamOf; rw [e]
    exact ⟨_, hG, fun R d blk args K x hc hf ha hb => callGT_ok hc hf ha hb⟩
  · cases h
theorem tgam_none (T : FTab) (f : FuncId) (h : tgamOf T f = none) : gamOf T f = none := by
  unfold tgamOf at h
  unfold gamOf
  split at h
  · cases h
  · cases h
  · rfl

def EntOk (P : Program) (f : FuncId) : Ent → Prop
  | .p l => Enters P f ∧ ∀ s ∈ l, PSound P f s.lift
  | .g l => Enters P f ∧ ∀ s ∈ l, GSound P f s.lift
def TabOk (P : Program) : FTab → Prop
  | [] => True
  | (f, e) :: T => EntOk P f e ∧ TabOk P T

section
variable {P : Program}

theorem liftPs_sound {f : FuncId} {l : List PSpec} (h : ∀ s ∈ l, PSound P f s.lift) : PSound P f (liftPs l) := by
  intro I w ds xs r hr hI hx
  unfold liftPs at hr
  split at hr
  · rename_i s hs; exact h s (findP_mem hs) I w ds xs r hr hI hx
  · cases hr
theorem liftGs_sound {f : FuncId} {l : List GSpec} (h : ∀ s ∈ l, GSound P f s.lift) : GSound P f (liftGs l) := {
  calls := by
    intro d args blk v blk' hg
    unfold liftGs at hg
    split at hg
    · rename_i s hs; exact (h s (findG_mem hs)).calls hg
    · cases hg
  lone := by
    intro d args blk e B he hd ha hb
    unfold liftGs
    split
    · rename_i s hs; exact (h s (findG_mem hs)).lone he hd ha hb
    · rfl
  news := by
    intro d args blk v blk' hg
    unfold liftGs at hg
    split at hg
    · rename_i s hs; exact (h s (findG_mem hs)).news hg
    · cases hg
  ok := by
    intro d args blk v blk' hg
    unfold liftGs at hg
    split at hg
    · rename_i s hs; exact (h s (findG_mem hs)).ok hg
    · cases hg }

theorem findE_ok : ∀ {T : FTab}, TabOk P T → ∀ {f : FuncId} {e : Ent}, findE T f = some e → EntOk P f e
  | [], _, f, e, h => by cases h
  | (k, e0) :: T, ht, f, e, h => by
    simp only [findE] at h
    split at h
    · rename_i hb; cases h; rw [Nat.eq_of_beq_eq_true hb]; exact ht.1
    · exact findE_ok ht.2 h
theorem gamOk_of {T : FTab} (h : TabOk P T) : GamOk P (gamOf T) := by
  intro f s hs
  unfold gamOf at hs
  split at hs
  · rename_i l e
    cases hs
    have := findE_ok h e
    exact ⟨this.1, liftPs_sound this.2⟩
  · rename_i l e
    cases hs
    have := findE_ok h e
    exact ⟨this.1, liftGs_sound this.2⟩
  · cases hs

/-- One function more, that works on data; l: its other kinds of arguments. -/
theorem TabOk.addP (hm : P.follows .mixedOrders = true) {T : FTab} (hT : TabOk P T) {f : FuncId} (H : Hints) (s : PSpec) (l : List PSpec) (hl : ∀ s ∈ l, PSound P f s.lift) (hok : okF P (tgamOf T) f s.args = true)
    (hF : s.F = runT P (tgamOf T) f H s.args s.ts s.bs s.rs) : EntOk P f (.p (s :: l)) := by
  refine ⟨okF_enters hok, fun s' hs => ?_⟩
  rcases List.mem_cons.1 hs with rfl | hs
  · exact psoundT hm (gamOk_of hT) (gamOf_direct T) (gamT_of T) (tgam_none T) H s' hok fun x y h => by rw [← hF]; exact h
  · exact hl s' hs
/-- One function more, that works on blocks of its callers'. -/
theorem TabOk.addG (hm : P.follows .mixedOrders = true) {T : FTab} (hT : TabOk P T) {f : FuncId} (H : Hints) (s : GSpec) (l : List GSpec) (hl : ∀ s ∈ l, GSound P f s.lift) (hok : okG P (tgamOf T) f s.args = true)
    (hF : s.F = runGT P (tgamOf T) f H s.args s.ts s.res s.keeps s.rs) : EntOk P f (.g (s :: l)) := by
  refine ⟨okG_enters hok, fun s' hs => ?_⟩
  rcases List.mem_cons.1 hs with rfl | hs
  · exact gsoundT hm (gamOk_of hT) (gamOf_direct T) (gamT_of T) (tgam_none T) H s' hok fun x y h => by rw [← hF]; exact h
  · exact hl s' hs
end
end Go.Abs

/- A function that works on data may be given slices for good: then it is one that works on blocks of its callers'. -/
namespace Go.Abs
open Go.RowKit

def toGs : List GA → Option (List SA)
  | [] => some []
  | .imm a :: l => (toGs l).map (a :: ·)
  | .arr τ :: l => (toGs l).map (.s (.leaf (.sl τ)) :: ·)
  | _ :: _ => none

section
variable {P : Program} {I I1 : Nat → Prop} {w : World} {ρ : Ref → Pl} {blk : Blk}

theorem toGs_rel (H : ∀ r B, blk r = some B → BRel I w ρ r B) (hI : ∀ b, I b → I1 b) : ∀ {as : List GA} {ps : List SA} {args : List AV} {ds : List Dyn} {refs : List Ref} {xs : List Value},
    toGs as = some ps → capGs blk as args = some (ds, refs) → ARels I w ρ args xs → (∀ r ∈ refs, ∀ b o ct sz, ρ r = .at b o ct sz → I1 b) → ∃ pds, decArgs ps pds = some ds ∧ VRels I1 w pds xs
  | [], ps, [], ds, refs, xs, h, hc, hx, _ => by
    cases h; cases hc
    exact ⟨[], rfl, by simpa [ARels, VRels] using hx⟩
  | [], _, _ :: _, _, _, _, _, hc, _, _ => by cases hc
  | _ :: _, _, [], _, _, _, _, hc, _, _ => by cases hc
  | a :: as, ps, v :: vs, ds, refs, xs, h, hc, hx, hl => by
    simp only [capGs] at hc
    split at hc
    case h_2 => cases hc
    rename_i ds1 rs1 ds2 rs2 h1 h2
    cases hc
    simp only [ARels] at hx
    obtain ⟨x, xs', rfl, x1, x2⟩ := hx
    have ih := fun ps' (e : toGs as = some ps') => toGs_rel H hI e h2 x2 fun r hr => hl r (by simp [hr])
    cases a with
    | imm a =>
      simp only [toGs] at h
      obtain ⟨ps', e, rfl⟩ := Option.map_eq_some_iff.1 h
      obtain ⟨pds, k1, k2⟩ := ih ps' e
      simp only [capG1] at h1
      replace h1 := bindT_some h1
      obtain ⟨d, hd, h1⟩ := h1
      obtain ⟨es, he, e⟩ := Option.map_eq_some_iff.1 h1
      cases e
      have hv : VRel I1 w d x := view_rel H hI (fun k => by cases k) 8 v d x hd x1
      refine ⟨d :: pds, by simp only [decArgs, he, k1], ?_⟩
      simp only [VRels]; exact ⟨x, xs', rfl, hv, k2⟩
    | arr τ =>
      simp only [toGs] at h
      obtain ⟨ps', e, rfl⟩ := Option.map_eq_some_iff.1 h
      obtain ⟨pds, k1, k2⟩ := ih ps' e
      cases v <;> simp only [capG1, reduceCtorEq] at h1
      rename_i r sz off n
      split at h1
      · rename_i sz' rows hr
        split at h1
        · rename_i hcnd
          obtain ⟨ys, hy, e⟩ := Option.map_eq_some_iff.1 h1
          cases e
          obtain ⟨rfl, rfl, rfl, hnle⟩ := hcnd
          have hw : window rows 0 n = some (rows.take n) := by
            unfold window; rw [if_pos (by omega)]; simp
          refine ⟨.sl (rows.take n) :: pds, ?_, ?_⟩
          · have hd : (SK.leaf (.sl τ)).dec (.sl (rows.take n)) = some ys := by
              have : decC (.sl τ) [.sl (rows.take n)] = some (ys, []) := by simp only [decC]; rw [hy]
              simp only [SK.dec, this, allOf]; rfl
            simp only [decArgs, SA.dec, hd, k1]; rfl
          · simp only [VRels]
            refine ⟨x, xs', rfl, ?_, k2⟩
            simp only [ARel] at x1
            obtain ⟨a, cap, rfl, hlc, hn, hnil, k⟩ := x1
            rcases H r _ hr with ⟨g1, g2⟩ | ⟨b, o, ct, c, el, fz, g1, g2, g3, g4, g5, g6, g7, g8⟩
            · obtain ⟨_, q2, q3, _⟩ := hnil g2
              subst g1
              subst q2
              subst q3
              simp only [VRel, List.take_nil, List.length_nil]
              exact ⟨a, 0, rfl, by omega, by simp [maxLen], .inl (by simp)⟩
            · obtain ⟨e0, e1, e2, _, e3⟩ := k _ _ _ _ g1
              exact rows_view hI (hl r (by simp) b o ct _ g1) g5 g7 hw e1 e2 e3
        · cases h1
      · cases h1
    | var τ => simp [toGs] at h
    | cloV fn τs => simp [toGs] at h

theorem tagged_take : ∀ (bs : List Bool) (ds : List Dyn), tagged bs (ds.take bs.length) = tagged bs ds
  | [], ds => by simp [tagged]
  | b :: bs, [] => by simp [tagged]
  | b :: bs, d :: ds => by simp only [List.length_cons, List.take_succ_cons, tagged, tagged_take bs ds]

def PSpec.toG (s : PSpec) (as : List GA) : GSpec := ⟨s.key, as, s.ts, .imm s.bs, (kindsG as).map fun _ => false, s.rs, s.F⟩

theorem gsound_of_p {f : FuncId} {s : PSpec} {as : List GA} (has : toGs as = some s.args) (h : PSound P f s.lift) : GSound P f (s.toG as).lift := {
  calls := by
    intro d args blk v blk' hg hfr I ρ w xs hrel hargs hx
    obtain ⟨ds, refs, x, y, n1, rest, n2, hc, hdist, hpk, hF, ho, hk, rfl⟩ := GSpec.lift_parts hg
    have hn2 : n2 = [] := by
      refine List.eq_nil_iff_forall_not_mem.2 fun ⟨r, B⟩ hm => ?_
      obtain ⟨i, k, dd, _, e2, _⟩ := keptG_mem hk r B hm
      simp only [PSpec.toG, List.getElem?_map, Option.map_eq_some_iff] at e2
      obtain ⟨_, _, e⟩ := e2
      cases e
    subst hn2
    simp only [PSpec.toG] at hc hpk hF ho
    simp only [outG, Option.some.injEq, Prod.mk.injEq] at ho
    obtain ⟨rfl, rfl, rfl⟩ := ho
    let I1 : Nat → Prop := fun b => I b ∨ Held (fun r => r ∈ refs) blk ρ b
    obtain ⟨pds, p1, p2⟩ := toGs_rel (I1 := I1) hrel.rel (fun b hb => .inl hb) has hc hx (fun r hr b o ct sz hp => by
      obtain ⟨B, hB, hO⟩ := capGs_dom hc r hr
      exact .inr ⟨r, B, o, ct, sz, hr, hB, hO, hp⟩)
    have hlift : s.lift pds = some (outPD (tagged s.bs (unpack s.rs y))) := by simp only [PSpec.lift, p1, hpk, hF]
    have hlt : ∀ b, I1 b → b < w.heap.size := by
      rintro b (hb | ⟨r, B, o, ct, sz, _, h1, h2, h3⟩)
      · exact hrel.imm b hb
      · exact (hrel.placed_lt h1 h2 h3).1
    refine (h I1 w pds xs _ hlift hlt p2).mono ?_
    rintro e w' ⟨u, rfl, hb, hu⟩
    have hz : (zipQ 0 refs).map (·.1) = refs := zipQ_fst 0 refs
    obtain ⟨ρ', heap', _, hdom, hlater, c1, c2, c3, c4, c5⟩ := endX_rel (I' := fun b => I1 b ∨ (w.heap.size ≤ b ∧ b < w'.heap.size)) (ρ1 := fun _ => .gone) (R := zipQ 0 refs) (N := []) hrel (fun b => ¬ Held (fun r => r ∈ (zipQ 0 refs).map (·.1)) blk ρ b) rfl
      (fun b hb => .inl (.inl hb)) ⟨hb.os, hb.tape, hb.output, hb.size, fun b k _ => hb.block b k⟩
      (by
        rintro b (hb' | hb')
        · exact Nat.lt_of_lt_of_le (hlt b hb') hb.size
        · exact hb'.2)
      (by
        rintro b ((hb' | hb') | hb')
        · exact .inl hb'
        · exact .inr (.inr fun k => k (by rw [hz]; exact hb'))
        · exact .inr (.inl hb'.1))
      (by simp) (by simp)
    have hov : overX [] (zipQ 0 refs) blk = overB .dead ([] ++ []) refs blk := by rw [overX_eq]; rfl
    rw [hov] at heap' hdom c5
    refine ⟨u, _, ρ', rfl, heap', ?_, ?_, hdom, hlater, c1, c2, c3, c4, c5⟩
    · simp only [vkA, ARel, PSpec.toG, tagged_take]; exact hu
    · simp only [vkA, AV.ok]
  lone := fun he hd ha hb => (s.toG as).lift_lone he hd ha hb
  news := fun hg e he hd => (s.toG as).lift_news hg e he hd
  ok := fun hg _ hb => (s.toG as).lift_ok hg hb }

theorem EntOk.toG {f : FuncId} {s : PSpec} {as : List GA} (h : EntOk P f (.p [s])) (has : toGs as = some s.args) : EntOk P f (.g [s.toG as]) :=
  ⟨h.1, fun t ht => by rw [List.mem_singleton.1 ht]; exact gsound_of_p has (h.2 s (List.mem_singleton_self _))⟩
end
end Go.Abs
