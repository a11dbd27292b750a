import Derived.Test.YtghdinkgfpfdoaaGreatLb
/- Functions that work on pure data. -/
namespace Go.Abs
open Go.RowKit

def entry (ds : List PD) : St := ⟨fun t => match ds[t]? with | some d => .pd d | none => .und, fun _ => none⟩

def resOne (P : Program) (st : St) : ResultVar → Option AV
  | .tmp t => some (st.env t)
  | .cell a t => loadA P st.blk t (st.env a)

def resK (P : Program) (st : St) : List ResultVar → (List AV → Prop) → Prop
  | [], K => K []
  | .tmp t :: l, K => forceAV (st.env t) fun v => resK P st l fun vs => K (v :: vs)
  | .cell a t :: l, K => loadAK P st.blk t (st.env a) fun v => resK P st l fun vs => K (v :: vs)
theorem resK_elim {P : Program} {st : St} : ∀ (l : List ResultVar) (K : List AV → Prop), resK P st l K → ∃ vs, l.mapM (resOne P st) = some vs ∧ K vs
  | [], K, h => ⟨[], rfl, h⟩
  | .tmp t :: l, K, h => by
    obtain ⟨vs, hv, h⟩ := resK_elim l _ ((forceAV_eq _ _).1 h)
    refine ⟨st.env t :: vs, ?_, h⟩
    rw [List.mapM_cons, hv]; rfl
  | .cell a t :: l, K, h => by
    obtain ⟨v, hl, h⟩ := loadAK_elim P h
    obtain ⟨vs, hv, h⟩ := resK_elim l _ h
    refine ⟨v :: vs, ?_, h⟩
    rw [List.mapM_cons, hv]; simp only [resOne, hl]; rfl

def retP (P : Program) (rs : List ResultVar) (r : PD) (st : St) : Prop :=
  resK P st rs fun vs => match vs with
    | [v] => viewK true st.blk 8 v fun d => d = r
    | vs => viewsWith (viewK true st.blk 8) vs fun ds => PD.tup ds = r

def retK (P : Program) (rs : List ResultVar) (r : PD) : Out → Prop
  | .normal s => retP P rs r s
  | .ret s => retP P rs r s
  | .exit _ _ => False

section
variable {P : Program} {Γ : Gam}

def resSem (tmps : Array Value) : ResultVar → Sem Value
  | .tmp t => pure (tmps.getD t undef)
  | .cell a t => do loadVar t (← asAddr (tmps.getD a undef))

theorem results_eq (fn : Func) (tmps : Array Value) : results fn tmps = (do let vs ← fn.results.mapM (resSem tmps); pure (if h : vs.size = 1 then vs[0] else .tuple vs)) := by
  unfold results
  congr 1

theorem res_run {C : Ctx} {I : Nat → Prop} {ρ : Ref → Pl} {st : St} {a : Act} {w : World} (h : SCore C I ρ st a w) {fn : Func} {vs : List AV} (hv : fn.results.toList.mapM (resOne C.P st) = some vs) :
    ∃ xs, ARels I w ρ vs xs ∧ AV.oks (dom st.blk) vs ∧ (results fn a.tmps).run C.P w = .ok (match xs with | [x] => x | xs => .tuple xs.toArray) w := by
  have key : ∀ (l : List ResultVar) (vs : List AV), l.mapM (resOne C.P st) = some vs → ∃ xs, ARels I w ρ vs xs ∧ AV.oks (dom st.blk) vs ∧
      (l.mapM (resSem a.tmps)).run C.P w = .ok xs w := by
    intro l
    induction l with
    | nil => intro vs hv; simp at hv; subst hv; exact ⟨[], by simp [ARels], by simp [AV.oks], rfl⟩
    | cons q l ih =>
      intro vs hv
      rw [List.mapM_cons] at hv
      simp only [Option.bind_eq_bind, Option.bind_eq_some_iff] at hv
      obtain ⟨v, hq, us, hl, hv⟩ := hv
      cases hv
      obtain ⟨xs, r1, r2, r3⟩ := ih us hl
      have one : ∃ x, ARel I w ρ v x ∧ v.ok (dom st.blk) ∧ (resSem a.tmps q).run C.P w = .ok x w := by
        cases q with
        | tmp t => simp only [resOne, Option.some.injEq] at hq; subst hq; exact ⟨_, h.env t, h.ok t, rfl⟩
        | cell b t =>
          simp only [resOne] at hq
          obtain ⟨y, hy, hyr, hyo⟩ := loadA_run h.heap hq (h.env b)
          have hq' := hq
          simp only [loadA, Option.bind_eq_some_iff] at hq'
          obtain ⟨i, _, cs, hc, _⟩ := hq'
          obtain ⟨_, _, b', o, _, e, _⟩ := cellsA_rel h.heap hc (h.env b)
          refine ⟨y, hyr, hyo, ?_⟩
          simp only [resSem]
          rw [e] at hy ⊢
          exact hy
      obtain ⟨x, x1, x2, x3⟩ := one
      refine ⟨x :: xs, by simp only [ARels]; exact ⟨x, xs, rfl, x1, r1⟩, by simp only [AV.oks]; exact ⟨x2, r2⟩, ?_⟩
      rw [List.mapM_cons]
      rw [run_bind_ok x3, run_bind_ok r3]; rfl
  obtain ⟨xs, r1, r2, r3⟩ := key _ _ hv
  refine ⟨xs, r1, r2, ?_⟩
  rw [results_eq, Array.mapM_eq_mapM_toList, map_eq_pure_bind, bind_assoc, run_bind_ok r3]
  cases xs with
  | nil => rfl
  | cons x xs =>
    cases xs with
    | nil => rfl
    | cons y ys => rfl

theorem entry_rel {P : Program} {I : Nat → Prop} {w : World} {n : Nat} {ds : List PD} {xs : List Value} (hI : ∀ b, I b → b < w.heap.size) (hx : VRels I w ds xs) (hn : ds.length ≤ n) :
    SRel { P, w0 := w, I0 := I, fix := fun _ => True, n } (entry ds) { tmps := xs.toArray ++ Array.replicate (n - xs.toArray.size) undef, defers := [] } w := by
  have hl := hx.length
  refine ⟨I, fun _ => .gone, rfl, by simp; omega, ⟨hI, by simp [entry], by simp [entry], by simp [entry]⟩, fun _ k => k, fun _ k => .inl k, Frame.refl _ _, by simp [entry], fun t => ?_, fun t => ?_, fun _ h => h.elim⟩
  · simp only [entry]
    cases ht : ds[t]? with
    | none => simp only [ARel]
    | some d =>
      obtain ⟨x, hx', hr⟩ := VRels.get hx ht
      have : (xs.toArray ++ Array.replicate (n - xs.toArray.size) undef).getD t undef = x := by
        have hlt : t < xs.length := (List.getElem?_eq_some_iff.1 hx').1
        rw [Array.getD_eq_getD_getElem?, Array.getElem?_append_left (by simpa using hlt)]
        simp [hx']
      rw [this]
      simpa only [ARel] using hr
  · simp only [entry]
    cases ds[t]? <;> simp only [AV.ok]

/-- A function is what its code does. -/
theorem psound_of_code {f : FuncId} {F : List PD → Option PD} {fn : Func} {c : Code} (hf : P.funcs[f]? = some fn) (hb : fn.body = some c)
    (h : ∀ ds r, F ds = some r → ds.length ≤ fn.ntmps ∧ ∀ w0 I0, AWP { P, w0, I0, fix := fun _ => True, n := fn.ntmps } c (entry ds) (retK P fn.results.toList r)) : PSound P f F := by
  intro I w ds xs r hr hI hx
  obtain ⟨hn, hc⟩ := h ds r hr
  refine calls_of_wp hf hb (Go.wp_mono (hc w I _ _ (entry_rel hI hx hn)) ?_)
  have fin : ∀ s a' w', retP P fn.results.toList r s → SRel { P, w0 := w, I0 := I, fix := fun _ => True, n := fn.ntmps } s a' w' →
      a'.defers = [] ∧ ∃ v, (results fn a'.tmps).run P w' = .ok v w' ∧ ∃ x, Ending.returned v = .returned x ∧ Below w.heap.size w w' ∧ VRel (fun b => I b ∨ (w.heap.size ≤ b ∧ b < w'.heap.size)) w' r x := by
    rintro s a' w' hret ⟨I', ρ', hs⟩
    obtain ⟨vs, hv, hret⟩ := resK_elim _ _ hret
    obtain ⟨ys, y1, y2, y3⟩ := res_run hs hv
    have hI1 : ∀ b, I' b → I b ∨ (w.heap.size ≤ b ∧ b < w'.heap.size) := by
      intro b hb'
      have hlt := hs.heap.imm b hb'
      rcases hs.new b hb' with k | k | k
      · exact .inl k
      · exact .inr ⟨k, hlt⟩
      · exact absurd trivial k
    have hI2 : true = true → ∀ q B b o ct sz, s.blk q = some B → B.owned = true → ρ' q = .at b o ct sz → I b ∨ (w.heap.size ≤ b ∧ b < w'.heap.size) := by
      intro _ q B b o ct sz hq hB hp
      exact .inr ⟨hs.own q B b _ _ _ hq hB hp trivial, (hs.heap.placed_lt hq hB hp).1⟩
    refine ⟨hs.defers, _, y3, _, rfl, hs.frame.below, ?_⟩
    match vs, ys, hret, y1 with
    | [], ys, hret, y1 =>
      simp only [ARels] at y1; subst y1
      have : PD.tup [] = r := hret
      subst this
      simp only [VRel]; exact ⟨#[], rfl, by simp [VRels]⟩
    | [v], ys, hret, y1 =>
      simp only [ARels] at y1; obtain ⟨y, _, rfl, hy, rfl⟩ := y1
      obtain ⟨d, hd, rfl⟩ := viewK_elim 8 v _ hret
      exact view_rel hs.heap.rel hI1 hI2 8 v d y hd hy
    | v :: u :: vs, ys, hret, y1 =>
      obtain ⟨ds', hd, rfl⟩ := viewsWith_elim (viewK_elim 8) (v :: u :: vs) _ hret
      have hvr := ARels.views hs.heap.rel hI1 hI2 hd y1
      simp only [ARels] at y1; obtain ⟨y, _, rfl, _, z, zs, rfl, _⟩ := y1
      simp only [VRel]; exact ⟨_, rfl, by simpa using hvr⟩
  intro e a' w' he
  cases e with
  | normal => obtain ⟨s, hk, hs⟩ := he; exact fin s a' w' hk hs
  | ret => obtain ⟨s, hk, hs⟩ := he; exact fin s a' w' hk hs
  | exit id => obtain ⟨s, hk, _⟩ := he; exact hk.elim
  | _ => exact he.elim

theorem psound {f : FuncId} {F : List PD → Option PD} {fn : Func} {c : Code} (hf : P.funcs[f]? = some fn) (hb : fn.body = some c) (hm : P.follows .mixedOrders = true) (hΓ : GamOk P Γ)
    (h : ∀ ds r, F ds = some r → ds.length ≤ fn.ntmps ∧ ∀ w0 I0, codeK { P, w0, I0, fix := fun _ => True, n := fn.ntmps } Γ c (entry ds) (retK P fn.results.toList r)) : PSound P f F :=
  psound_of_code hf hb fun ds r hr => ⟨(h ds r hr).1, fun w0 I0 => codeK_sound (C := { P, w0, I0, fix := fun _ => True, n := fn.ntmps }) hm hΓ c _ _ ((h ds r hr).2 w0 I0)⟩

end
end Go.Abs

/- Names that are changed; the blocks that one can reach. -/
namespace Go.Abs
open Go.RowKit

mutual
def AV.ren (h : Ref → Option Ref) : AV → Option AV
  | .und => some .und
  | .pd d => some (.pd d)
  | .nil => some .nil
  | .agg cs => match AV.rens h cs with
    | some cs => some (.agg cs)
    | none => none
  | .tup cs => match AV.rens h cs with
    | some cs => some (.tup cs)
    | none => none
  | .ptr r o => match h r with
    | some r => some (.ptr r o)
    | none => none
  | .eptr r i o => match h r with
    | some r => some (.eptr r i o)
    | none => none
  | .sl r sz o n => match h r with
    | some r => some (.sl r sz o n)
    | none => none
  | .clo f a b => match AV.rens h a, AV.rens h b with
    | some a, some b => some (.clo f a b)
    | _, _ => none
  | .iface t v => match AV.ren h v with
    | some v => some (.iface t v)
    | none => none
def AV.rens (h : Ref → Option Ref) : List AV → Option (List AV)
  | [] => some []
  | v :: vs => match AV.ren h v, AV.rens h vs with
    | some v, some vs => some (v :: vs)
    | _, _ => none
end

def Block.ren (h : Ref → Option Ref) : Block → Option Block
  | .vars cs => match AV.rens h cs with
    | some cs => some (.vars cs)
    | none => none
  | B => some B

mutual
def AV.names : AV → List Ref
  | .und | .pd _ | .nil => []
  | .agg cs | .tup cs => AV.namess cs
  | .ptr r _ | .eptr r _ _ | .sl r _ _ _ => [r]
  | .clo _ a b => AV.namess a ++ AV.namess b
  | .iface _ v => AV.names v
def AV.namess : List AV → List Ref
  | [] => []
  | v :: vs => AV.names v ++ AV.namess vs
end
def Block.names : Block → List Ref
  | .vars cs => AV.namess cs
  | _ => []

section
variable {I : Nat → Prop} {w : World} {ρ ρ' : Ref → Pl} {h : Ref → Option Ref} {D D' : Ref → Prop}

mutual
theorem AV.ren_rel (hh : ∀ r r', h r = some r' → ρ' r' = ρ r ∨ ρ' r' = .gone) : ∀ (v v' : AV) (x : Value), v.ren h = some v' → ARel I w ρ v x → ARel I w ρ' v' x
  | .und, v', x, e, k => by simp only [AV.ren, Option.some.injEq] at e; subst e; simp only [ARel]
  | .pd d, v', x, e, k => by simp only [AV.ren, Option.some.injEq] at e; subst e; simpa only [ARel] using k
  | .nil, v', x, e, k => by simp only [AV.ren, Option.some.injEq] at e; subst e; simpa only [ARel] using k
  | .agg cs, v', x, e, k => by
    simp only [AV.ren] at e; split at e
    · rename_i cs' h1; cases e; simp only [ARel] at k ⊢; obtain ⟨vs, e, hc, k⟩ := k; exact ⟨vs, e, hc, AV.rens_rel hh cs cs' _ h1 k⟩
    · cases e
  | .tup cs, v', x, e, k => by
    simp only [AV.ren] at e; split at e
    · rename_i cs' h1; cases e; simp only [ARel] at k ⊢; obtain ⟨vs, e, k⟩ := k; exact ⟨vs, e, AV.rens_rel hh cs cs' _ h1 k⟩
    · cases e
  | .ptr r o, v', x, e, k => by
    simp only [AV.ren] at e; split at e
    · rename_i r' h1; cases e; simp only [ARel] at k ⊢; obtain ⟨ad, e, k⟩ := k
      exact ⟨ad, e, fun b o ct sz hr => by rcases hh r r' h1 with g | g <;> rw [g] at hr; exact k b o ct sz hr; cases hr⟩
    · cases e
  | .eptr r i o, v', x, e, k => by
    simp only [AV.ren] at e; split at e
    · rename_i r' h1; cases e; simp only [ARel] at k ⊢; obtain ⟨ad, e, k⟩ := k
      exact ⟨ad, e, fun b o ct sz hr => by rcases hh r r' h1 with g | g <;> rw [g] at hr; exact k b o ct sz hr; cases hr⟩
    · cases e
  | .sl r sz o n, v', x, e, k => by
    simp only [AV.ren] at e; split at e
    · rename_i r' h1; cases e; simp only [ARel] at k ⊢; obtain ⟨ad, cap, e, k1, k2, k3, k4⟩ := k
      refine ⟨ad, cap, e, k1, k2, fun hr => ?_, fun b o ct sz hr => ?_⟩
      · rcases hh r r' h1 with g | g <;> rw [g] at hr
        · exact k3 hr
        · cases hr
      · rcases hh r r' h1 with g | g <;> rw [g] at hr
        · exact k4 b o ct sz hr
        · cases hr
    · cases e
  | .clo f a b, v', x, e, k => by
    simp only [AV.ren] at e; split at e
    · rename_i a' b' h1 h2; cases e; simp only [ARel] at k ⊢; obtain ⟨vs, us, e, k1, k2⟩ := k
      exact ⟨vs, us, e, AV.rens_rel hh a a' _ h1 k1, AV.rens_rel hh b b' _ h2 k2⟩
    · cases e
  | .iface t v, v', x, e, k => by
    simp only [AV.ren] at e; split at e
    · rename_i u h1; cases e; simp only [ARel] at k ⊢; obtain ⟨y, e, k⟩ := k; exact ⟨y, e, AV.ren_rel hh v u _ h1 k⟩
    · cases e
theorem AV.rens_rel (hh : ∀ r r', h r = some r' → ρ' r' = ρ r ∨ ρ' r' = .gone) : ∀ (vs vs' : List AV) (xs : List Value), AV.rens h vs = some vs' → ARels I w ρ vs xs → ARels I w ρ' vs' xs
  | [], vs', xs, e, k => by simp only [AV.rens, Option.some.injEq] at e; subst e; simpa only [ARels] using k
  | v :: vs, vs', xs, e, k => by
    simp only [AV.rens] at e; split at e
    · rename_i u us h1 h2; cases e
      simp only [ARels] at k ⊢; obtain ⟨x, xs', e, k1, k2⟩ := k
      exact ⟨x, xs', e, AV.ren_rel hh v u x h1 k1, AV.rens_rel hh vs us xs' h2 k2⟩
    · cases e
end

mutual
theorem AV.ren_ok (hh : ∀ r r', D r → h r = some r' → D' r') : ∀ (v v' : AV), v.ren h = some v' → v.ok D → v'.ok D'
  | .und, v', e, k => by simp only [AV.ren, Option.some.injEq] at e; subst e; simp only [AV.ok]
  | .pd d, v', e, k => by simp only [AV.ren, Option.some.injEq] at e; subst e; simp only [AV.ok]
  | .nil, v', e, k => by simp only [AV.ren, Option.some.injEq] at e; subst e; simp only [AV.ok]
  | .agg cs, v', e, k => by
    simp only [AV.ren] at e; split at e
    · rename_i cs' h1; cases e; simp only [AV.ok] at k ⊢; exact AV.rens_ok hh cs cs' h1 k
    · cases e
  | .tup cs, v', e, k => by
    simp only [AV.ren] at e; split at e
    · rename_i cs' h1; cases e; simp only [AV.ok] at k ⊢; exact AV.rens_ok hh cs cs' h1 k
    · cases e
  | .ptr r o, v', e, k => by
    simp only [AV.ren] at e; split at e
    · rename_i r' h1; cases e; simp only [AV.ok] at k ⊢; exact hh r r' k h1
    · cases e
  | .eptr r i o, v', e, k => by
    simp only [AV.ren] at e; split at e
    · rename_i r' h1; cases e; simp only [AV.ok] at k ⊢; exact hh r r' k h1
    · cases e
  | .sl r sz o n, v', e, k => by
    simp only [AV.ren] at e; split at e
    · rename_i r' h1; cases e; simp only [AV.ok] at k ⊢; exact hh r r' k h1
    · cases e
  | .clo f a b, v', e, k => by
    simp only [AV.ren] at e; split at e
    · rename_i a' b' h1 h2; cases e; simp only [AV.ok] at k ⊢; exact ⟨AV.rens_ok hh a a' h1 k.1, AV.rens_ok hh b b' h2 k.2⟩
    · cases e
  | .iface t v, v', e, k => by
    simp only [AV.ren] at e; split at e
    · rename_i u h1; cases e; simp only [AV.ok] at k ⊢; exact AV.ren_ok hh v u h1 k
    · cases e
theorem AV.rens_ok (hh : ∀ r r', D r → h r = some r' → D' r') : ∀ (vs vs' : List AV), AV.rens h vs = some vs' → AV.oks D vs → AV.oks D' vs'
  | [], vs', e, k => by simp only [AV.rens, Option.some.injEq] at e; subst e; simp only [AV.oks]
  | v :: vs, vs', e, k => by
    simp only [AV.rens] at e; split at e
    · rename_i u us h1 h2; cases e
      simp only [AV.oks] at k ⊢; exact ⟨AV.ren_ok hh v u h1 k.1, AV.rens_ok hh vs us h2 k.2⟩
    · cases e
end

mutual
theorem AV.names_ok : ∀ v : AV, (∀ r ∈ v.names, D r) ↔ v.ok D
  | .und => by simp [AV.names, AV.ok]
  | .pd _ => by simp [AV.names, AV.ok]
  | .nil => by simp [AV.names, AV.ok]
  | .agg cs => by simp only [AV.names, AV.ok]; exact AV.namess_ok cs
  | .tup cs => by simp only [AV.names, AV.ok]; exact AV.namess_ok cs
  | .ptr r _ => by simp [AV.names, AV.ok]
  | .eptr r _ _ => by simp [AV.names, AV.ok]
  | .sl r _ _ _ => by simp [AV.names, AV.ok]
  | .clo _ a b => by
    simp only [AV.names, AV.ok, List.mem_append, ← AV.namess_ok a, ← AV.namess_ok b]
    exact ⟨fun k => ⟨fun r hr => k r (.inl hr), fun r hr => k r (.inr hr)⟩, fun k r hr => hr.elim (k.1 r) (k.2 r)⟩
  | .iface _ v => by simp only [AV.names, AV.ok]; exact AV.names_ok v
theorem AV.namess_ok : ∀ vs : List AV, (∀ r ∈ AV.namess vs, D r) ↔ AV.oks D vs
  | [] => by simp [AV.namess, AV.oks]
  | v :: vs => by
    simp only [AV.namess, AV.oks, List.mem_append, ← AV.names_ok v, ← AV.namess_ok vs]
    exact ⟨fun k => ⟨fun r hr => k r (.inl hr), fun r hr => k r (.inr hr)⟩, fun k r hr => hr.elim (k.1 r) (k.2 r)⟩
end
theorem Block.names_ok (B : Block) : (∀ r ∈ B.names, D r) ↔ B.ok D := by
  cases B <;> simp [Block.names, Block.ok, AV.namess_ok]
theorem Block.ren_ok (hh : ∀ r r', D r → h r = some r' → D' r') {B B' : Block} (e : B.ren h = some B') (k : B.ok D) : B'.ok D' := by
  cases B with
  | vars cs =>
    simp only [Block.ren] at e; split at e
    · rename_i cs' h1; cases e; exact AV.rens_ok hh cs cs' h1 k
    · cases e
  | _ => simp only [Block.ren, Option.some.injEq] at e; subst e; trivial
theorem Block.ren_owned {B B' : Block} (e : B.ren h = some B') : B'.owned = B.owned := by
  cases B with
  | vars cs =>
    simp only [Block.ren] at e; split at e
    · cases e; rfl
    · cases e
  | _ => simp only [Block.ren, Option.some.injEq] at e; subst e; rfl
theorem BRel.ren (hh : ∀ r r', h r = some r' → ρ' r' = ρ r ∨ ρ' r' = .gone) {q r : Ref} (hq : ρ' r = ρ q) {B B' : Block} (e : B.ren h = some B') (k : BRel I w ρ q B) : BRel I w ρ' r B' := by
  cases B with
  | vars cs =>
    simp only [Block.ren] at e; split at e
    · rename_i cs' h1; cases e
      obtain ⟨b, ct, sz, c, el, fz, k1, k2, k3, k4, kc, k5⟩ := k
      exact ⟨b, ct, sz, c, el, fz, hq.trans k1, k2, k3, k4, kc, AV.rens_rel hh cs cs' _ h1 k5⟩
    · cases e
  | arr sz rows =>
    simp only [Block.ren, Option.some.injEq] at e; subst e
    rcases k with ⟨k1, k2⟩ | ⟨b, o, ct, c, el, fz, k1, k2⟩
    · exact .inl ⟨k1, hq.trans k2⟩
    · exact .inr ⟨b, o, ct, c, el, fz, hq.trans k1, k2⟩
  | fro sz rows =>
    simp only [Block.ren, Option.some.injEq] at e; subst e
    rcases k with ⟨k1, k2⟩ | ⟨b, o, ct, k1, k2⟩
    · exact .inl ⟨k1, hq.trans k2⟩
    · exact .inr ⟨b, o, ct, hq.trans k1, k2⟩
  | dead => simp only [Block.ren, Option.some.injEq] at e; subst e; exact hq.trans k
end

/-- What can be reached from names. -/
def reachL (blk : Blk) : Nat → List Ref → List Ref → List Ref
  | 0, _, acc => acc
  | _ + 1, [], acc => acc
  | k + 1, r :: t, acc => match acc.contains r with
    | true => reachL blk k t acc
    | false => reachL blk k ((match blk r with | some B => B.names | none => []) ++ t) (r :: acc)

theorem reachL_dom {blk : Blk} (hb : ∀ r X, blk r = some X → X.ok (dom blk)) : ∀ (k : Nat) (t acc : List Ref), (∀ r ∈ t, dom blk r) → (∀ r ∈ acc, dom blk r) → ∀ r ∈ reachL blk k t acc, dom blk r
  | 0, _, acc, _, ha => ha
  | _ + 1, [], acc, _, ha => ha
  | k + 1, r :: t, acc, ht, ha => by
    simp only [reachL]
    split
    · exact reachL_dom hb k t acc (fun x hx => ht x (by simp [hx])) ha
    · refine reachL_dom hb k _ _ (fun x hx => ?_) (fun x hx => ?_)
      · rcases List.mem_append.1 hx with hx | hx
        · cases hr : blk r with
          | none => rw [hr] at hx; cases hx
          | some B => rw [hr] at hx; exact (Block.names_ok B).2 (hb r B hr) x hx
        · exact ht x (by simp [hx])
      · rcases List.mem_cons.1 hx with rfl | hx
        · exact ht x (by simp)
        · exact ha x hx
theorem reachL_lone {blk : Blk} (hb : ∀ r X, blk r = some X → X.ok (dom blk)) {e : Ref} {X : Block} (he : blk e = none) : ∀ (k : Nat) (t acc : List Ref), (∀ r ∈ t, dom blk r) → reachL (upd blk e (some X)) k t acc = reachL blk k t acc
  | 0, _, acc, _ => rfl
  | _ + 1, [], acc, _ => rfl
  | k + 1, r :: t, acc, ht => by
    have hr : dom blk r := ht r (by simp)
    have hne : r ≠ e := by rintro rfl; simp [dom, he] at hr
    simp only [reachL, upd_ne _ _ hne]
    split
    · exact reachL_lone hb he k t acc fun x hx => ht x (by simp [hx])
    · refine reachL_lone hb he k _ _ fun x hx => ?_
      rcases List.mem_append.1 hx with hx | hx
      · cases hr : blk r with
        | none => rw [hr] at hx; cases hx
        | some B => rw [hr] at hx; exact (Block.names_ok B).2 (hb r B hr) x hx
      · exact ht x (by simp [hx])
end Go.Abs

/- What is out of reach is forgotten, and what is left gets names that the code does not use. -/
namespace Go.Abs
open Go.RowKit

def isLoc : Ref → Bool
  | .loc _ _ => true
  | .out _ => false

def newName : List (Ref × Ref) → Ref → Option Ref
  | [], _ => none
  | (r, q) :: T, x => if x = q then some r else newName T x

/-- New names and old ones. -/
def tidyT (n : Nat) (L outs : List Ref) : List (Ref × Ref) := (L.zipIdx.map fun (q, i) => (.loc (n + 1 + i) 0, q)) ++ outs.map fun r => (r, r)

def tidyB (s : Blk) (h : Ref → Option Ref) : List (Ref × Ref) → Option NameTab
  | [] => some []
  | (r, q) :: T => match s q with
    | none => none
    | some B => match B.ren h, tidyB s h T with
      | some B, some N => some ((r, some q, B) :: N)
      | _, _ => none

def tidyE (env : Nat → AV) (h : Ref → Option Ref) : List Nat → Option (List (Nat × AV))
  | [] => some []
  | t :: ts => match (env t).ren h, tidyE env h ts with
    | some v, some l => some ((t, v) :: l)
    | _, _ => none

def envNames (env : Nat → AV) : List Nat → List Ref
  | [] => []
  | t :: ts => (env t).names ++ envNames env ts

def tidy (n : Nat) (outs : List Ref) (s : St) : Option St :=
  let L := (reachL s.blk 512 (envNames s.env (List.range n) ++ outs) []).filter isLoc
  let T := tidyT n L outs
  match tidyB s.blk (newName T) T, tidyE s.env (newName T) (List.range n) with
  | some N, some l => match namesOk N l with
    | true => some ⟨mkE l, mkB N⟩
    | false => none
  | _, _ => none

theorem newName_mem : ∀ {T : List (Ref × Ref)} {q r : Ref}, newName T q = some r → (r, q) ∈ T
  | [], _, _, h => by simp [newName] at h
  | (r0, q0) :: T, q, r, h => by
    simp only [newName] at h
    split at h
    · cases h; subst_vars; simp
    · simp [newName_mem h]

theorem tidyB_spec {s : Blk} {h : Ref → Option Ref} : ∀ {T : List (Ref × Ref)} {N : NameTab}, tidyB s h T = some N →
    (∀ r o B, (r, o, B) ∈ N → ∃ q B0, o = some q ∧ (r, q) ∈ T ∧ s q = some B0 ∧ B0.ren h = some B) ∧ (∀ r q, (r, q) ∈ T → ∃ B, (r, some q, B) ∈ N)
  | [], N, e => by cases e; exact ⟨fun _ _ _ h => (by cases h), fun _ _ h => (by cases h)⟩
  | (r0, q0) :: T, N, e => by
    simp only [tidyB] at e
    split at e
    · cases e
    rename_i B0 hB
    split at e
    · rename_i B N' h1 h2
      cases e
      obtain ⟨k1, k2⟩ := tidyB_spec h2
      refine ⟨fun r o B' hm => ?_, fun r q hm => ?_⟩
      · rcases List.mem_cons.1 hm with e | hm
        · cases e; exact ⟨q0, B0, rfl, by simp, hB, h1⟩
        · obtain ⟨q, B1, a, b, c⟩ := k1 r o B' hm; exact ⟨q, B1, a, by simp [b], c⟩
      · rcases List.mem_cons.1 hm with e | hm
        · cases e; exact ⟨B, by simp⟩
        · obtain ⟨B', hm'⟩ := k2 r q hm; exact ⟨B', by simp [hm']⟩
    · cases e

theorem findN_of_mem : ∀ {N : NameTab}, distinct (N.map (·.1)) = true → ∀ {r q}, (r, q) ∈ N → findN N r = some q
  | [], _, _, _, h => by cases h
  | (r0, q0) :: N, hd, r, q, h => by
    simp only [List.map_cons, distinct, Bool.and_eq_true, Bool.not_eq_true', List.contains_eq_mem, decide_eq_false_iff_not] at hd
    simp only [findN]
    rcases List.mem_cons.1 h with e | h
    · cases e; rw [if_pos rfl]
    · rw [if_neg (by intro e; exact hd.1 (List.mem_map.2 ⟨(r, q), h, e⟩))]
      exact findN_of_mem hd.2 h

section
variable {N : NameTab} {h : Ref → Option Ref}
mutual
theorem AV.ren_le (hh : ∀ r r', h r = some r' → (findN N r').map (·.1) = some (some r)) : ∀ v v' : AV, v.ren h = some v' → AVle N v' v
  | .und, v', e => by simp only [AV.ren, Option.some.injEq] at e; subst e; simp only [AVle]
  | .pd d, v', e => by simp only [AV.ren, Option.some.injEq] at e; subst e; simp only [AVle]
  | .nil, v', e => by simp only [AV.ren, Option.some.injEq] at e; subst e; simp only [AVle]
  | .agg cs, v', e => by
    simp only [AV.ren] at e; split at e
    · rename_i cs' h1; cases e; simp only [AVle]; exact AV.rens_le hh cs cs' h1
    · cases e
  | .tup cs, v', e => by
    simp only [AV.ren] at e; split at e
    · rename_i cs' h1; cases e; simp only [AVle]; exact AV.rens_le hh cs cs' h1
    · cases e
  | .ptr r o, v', e => by
    simp only [AV.ren] at e; split at e
    · rename_i r' h1; cases e; simp only [AVle]; exact ⟨hh r r' h1, by trivial⟩
    · cases e
  | .eptr r i o, v', e => by
    simp only [AV.ren] at e; split at e
    · rename_i r' h1; cases e; simp only [AVle]; exact ⟨hh r r' h1, by trivial, by trivial⟩
    · cases e
  | .sl r sz o n, v', e => by
    simp only [AV.ren] at e; split at e
    · rename_i r' h1; cases e; simp only [AVle]; exact ⟨hh r r' h1, by trivial, by trivial, by trivial⟩
    · cases e
  | .clo f a b, v', e => by
    simp only [AV.ren] at e; split at e
    · rename_i a' b' h1 h2; cases e; simp only [AVle]; exact ⟨by trivial, AV.rens_le hh a a' h1, AV.rens_le hh b b' h2⟩
    · cases e
  | .iface t v, v', e => by
    simp only [AV.ren] at e; split at e
    · rename_i u h1; cases e; simp only [AVle]; exact ⟨by trivial, AV.ren_le hh v u h1⟩
    · cases e
theorem AV.rens_le (hh : ∀ r r', h r = some r' → (findN N r').map (·.1) = some (some r)) : ∀ vs vs' : List AV, AV.rens h vs = some vs' → AVles N vs' vs
  | [], vs', e => by simp only [AV.rens, Option.some.injEq] at e; subst e; simp only [AVles]
  | v :: vs, vs', e => by
    simp only [AV.rens] at e; split at e
    · rename_i u us h1 h2; cases e
      simp only [AVles]; exact ⟨AV.ren_le hh v u h1, AV.rens_le hh vs us h2⟩
    · cases e
end

theorem BlkLe.ren (hh : ∀ r r', h r = some r' → (findN N r').map (·.1) = some (some r)) {blk : Blk} {q : Ref} {B0 B : Block} (h0 : blk q = some B0) (e : B0.ren h = some B) : BlkLe N blk (some q) B := by
  cases B0 with
  | vars cs =>
    simp only [Block.ren] at e; split at e
    · rename_i cs' h1; cases e; exact ⟨cs, h0, AV.rens_le hh cs cs' h1⟩
    · cases e
  | arr sz rows => simp only [Block.ren, Option.some.injEq] at e; subst e; exact ⟨rows, h0, rfl⟩
  | fro sz rows => simp only [Block.ren, Option.some.injEq] at e; subst e; exact ⟨rows, h0, rfl⟩
  | dead => simp only [Block.ren, Option.some.injEq] at e; subst e; exact h0

theorem tidyE_le (hh : ∀ r r', h r = some r' → (findN N r').map (·.1) = some (some r)) {env : Nat → AV} : ∀ {ts : List Nat} {l : List (Nat × AV)}, tidyE env h ts = some l → EnvLe N env l
  | [], l, e => by cases e; simp only [EnvLe]
  | t :: ts, l, e => by
    simp only [tidyE] at e
    split at e
    · rename_i v l' h1 h2; cases e; simp only [EnvLe]; exact ⟨AV.ren_le hh _ _ h1, tidyE_le hh h2⟩
    · cases e
end

theorem BlksLe.of {N : NameTab} {blk : Blk} : ∀ {M : NameTab}, (∀ r q B, (r, q, B) ∈ M → BlkLe N blk q B) → BlksLe N blk M
  | [], _ => by simp only [BlksLe]
  | (r, q, B) :: M, h => by simp only [BlksLe]; exact ⟨h r q B (by simp), BlksLe.of fun r q B hm => h r q B (by simp [hm])⟩

theorem tidy_weak {C : Ctx} {n : Nat} {outs : List Ref} {s s' : St} (ho : ∀ r, C.D0 r → r ∈ outs) (h : tidy n outs s = some s') : Weak C s s' := by
  unfold tidy at h
  simp only at h
  generalize (reachL s.blk 512 (envNames s.env (List.range n) ++ outs) []).filter isLoc = L at h
  split at h
  case h_2 => cases h
  rename_i N l hN hl
  split at h
  case h_2 => cases h
  rename_i hok
  cases h
  have hd : distinct (N.map (·.1)) = true := by simp only [namesOk, Bool.and_eq_true] at hok; exact hok.1.1.1
  obtain ⟨k1, k2⟩ := tidyB_spec hN
  have hh : ∀ r r', newName (tidyT n L outs) r = some r' → (findN N r').map (·.1) = some (some r) := by
    intro r r' e
    obtain ⟨B, hB⟩ := k2 r' r (newName_mem e)
    rw [findN_of_mem hd hB]; rfl
  refine weak_names_tied N l (tidyE_le hh hl) (BlksLe.of fun r q B hm => ?_) hok fun r hr => ?_
  · obtain ⟨q', B0, rfl, _, h0, e⟩ := k1 r q B hm
    exact BlkLe.ren hh h0 e
  · obtain ⟨B, hB⟩ := k2 r r (by unfold tidyT; exact List.mem_append.2 (.inr (List.mem_map.2 ⟨r, ho r hr, rfl⟩)))
    exact ⟨B, findN_of_mem hd hB⟩
end Go.Abs

/- The run of a function's code as a function, with fuel. -/
namespace Go.Abs
open Go.RowKit

def evalCode (P : Program) (Γ : Gam) (n : Nat) (outs : List Ref) : Nat → Code → St → Option Out
  | 0, _, _ => none
  | k + 1, c, st => match c with
    | .skip => some (.normal st)
    | .label _ => some (.normal st)
    | .region _ ops draw => match evalOps P Γ n (dsOf ops) ops.toList st with
      | some s => match !draw || (softT P Γ ops).all fun t => isPtr (s.env t) with
        | true => some (.normal s)
        | false => none
      | none => none
    | .seq a b => match evalCode P Γ n outs k a st with
      | some (.normal s) => evalCode P Γ n outs k b s
      | r => r
    | .cond c x y => match asBool (opnd st.env c) with
      | some true => evalCode P Γ n outs k x st
      | some false => evalCode P Γ n outs k y st
      | none => none
    | .block id c => match evalCode P Γ n outs k c st with
      | some (.exit i s) => match Nat.beq i id with
        | true => some (.normal s)
        | false => some (.exit i s)
      | r => r
    | .loop c => match evalCode P Γ n outs k c st with
      | some (.normal s) => match tidy n outs s with
        | some s => evalCode P Γ n outs k (.loop c) s
        | none => none
      | r => r
    | .exit id => some (.exit id st)
    | .ret => some (.ret st)
    | _ => none

/-- Drawn regions whose order makes no difference. -/
def drawOk (P : Program) (Γ : Gam) : Code → Bool
  | .region _ ops draw => !draw || regionSoft P Γ ops
  | .seq a b => drawOk P Γ a && drawOk P Γ b
  | .cond _ a b => drawOk P Γ a && drawOk P Γ b
  | .block _ c => drawOk P Γ c
  | .loop c => drawOk P Γ c
  | _ => true

section
variable {C : Ctx} {Γ : Gam}

theorem evalCode_sound (hm : C.P.follows .mixedOrders = true) (hΓ : GamOk C.P Γ) {outs : List Ref} (ho : ∀ r, C.D0 r → r ∈ outs) : ∀ (k : Nat) (c : Code) (st : St) (o : Out), drawOk C.P Γ c = true → evalCode C.P Γ C.n outs k c st = some o → AWP C c st (· = o) := by
  intro k
  induction k using Nat.strongRecOn with
  | _ k ihs =>
  cases k with
  | zero => intro c st o _ h; cases h
  | succ k =>
    have ih := ihs k (Nat.lt_succ_self k)
    intro c st o hd h
    cases c with
    | skip => cases h; intro a w hs; exact wp_skip ⟨st, rfl, hs⟩
    | label l => cases h; intro a w hs; exact wp_label ⟨st, rfl, hs⟩
    | region id ops draw =>
      simp only [evalCode] at h
      split at h
      · rename_i s he
        split at h
        case h_2 => cases h
        rename_i hpt
        cases h
        intro a w hs
        cases draw with
        | false => exact region_text hΓ he hs fun a' w' hs' => ⟨s, rfl, hs'⟩
        | true => exact region_soft hm hΓ (by simpa [drawOk] using hd) he (by simpa using hpt) hs fun a' w' hs' => ⟨s, rfl, hs'⟩
      · cases h
    | seq x y =>
      simp only [drawOk, Bool.and_eq_true] at hd
      simp only [evalCode] at h
      intro a w hs
      split at h
      · rename_i s he
        refine wp_seq (Go.wp_mono (ih x st _ hd.1 he a w hs) ?_)
        intro e a' w' hx
        cases e with
        | normal => obtain ⟨s', e, hs'⟩ := hx; cases e; exact ih y s o hd.2 h a' w' hs'
        | exit id => obtain ⟨s', e, _⟩ := hx; cases e
        | ret => obtain ⟨s', e, _⟩ := hx; cases e
        | _ => exact hx.elim
      · rename_i hne
        refine wp_seq (Go.wp_mono (ih x st o hd.1 h a w hs) ?_)
        intro e a' w' hx
        cases e with
        | normal => obtain ⟨s', e, hs'⟩ := hx; subst e; exact (hne _ h).elim
        | exit id => exact hx
        | ret => exact hx
        | _ => exact hx.elim
    | cond c x y =>
      simp only [drawOk, Bool.and_eq_true] at hd
      simp only [evalCode] at h
      intro a w hs
      have hc : ∀ t, asBool (opnd st.env c) = some t → a.eval c = .bool t := by
        intro t ht
        obtain ⟨I, ρ, hsc⟩ := hs
        exact asBool_rel ht (opnd_rel hsc c)
      split at h
      · rename_i ht; exact wp_cond (hc _ ht) (ih x st o hd.1 h a w hs)
      · rename_i ht; exact wp_cond (hc _ ht) (ih y st o hd.2 h a w hs)
      · cases h
    | block id c =>
      simp only [drawOk] at hd
      simp only [evalCode] at h
      intro a w hs
      refine wp_block ?_
      split at h
      · rename_i i s he
        refine Go.wp_mono (ih c st _ hd he a w hs) ?_
        intro e a' w' hx
        cases e with
        | normal => obtain ⟨s', e, _⟩ := hx; cases e
        | exit j =>
          obtain ⟨s', e, hs'⟩ := hx; cases e
          simp only [Exit.inBlock]
          split at h
          · rename_i hb; cases h; rw [if_pos (Nat.eq_of_beq_eq_true hb)]; exact ⟨s, rfl, hs'⟩
          · rename_i hb; cases h
            rw [if_neg (by intro e; subst e; rw [Nat.beq_refl] at hb; cases hb)]; exact ⟨s, rfl, hs'⟩
        | ret => obtain ⟨s', e, _⟩ := hx; cases e
        | _ => exact hx.elim
      · rename_i hne
        refine Go.wp_mono (ih c st o hd h a w hs) ?_
        intro e a' w' hx
        cases e with
        | normal => exact hx
        | exit j => obtain ⟨s', e, hs'⟩ := hx; subst e; exact (hne _ _ h).elim
        | ret => exact hx
        | _ => exact hx.elim
    | loop c =>
      -- fuel goes down from round to round
      simp only [drawOk] at hd
      have key := awp_loop (C := C) (α := { x : Nat × St // x.1 ≤ k + 1 ∧ evalCode C.P Γ C.n outs x.1 (.loop c) x.2 = some o }) (fun x => x.1.2) (fun x => x.1.1) (c := c) (K := (· = o)) ?_ ⟨(k + 1, st), Nat.le_refl _, h⟩
      · exact key
      · rintro ⟨⟨j, s⟩, hj, hs⟩
        cases j with
        | zero => cases hs
        | succ j =>
          have hjk : j < k + 1 := hj
          simp only [evalCode] at hs
          split at hs
          · rename_i s' he
            split at hs
            · rename_i s2 ht
              exact (ihs j hjk c s (.normal s') hd he).mono fun o' ho' => by subst ho'; exact ⟨⟨(j, s2), Nat.le_of_lt hjk, hs⟩, Nat.lt_succ_self _, tidy_weak ho ht⟩
            · cases hs
          · rename_i hne
            refine (ihs j hjk c s o hd hs).mono fun o' ho => ?_
            subst ho
            cases o' with
            | normal s' => exact (hne _ hs).elim
            | exit i s' => rfl
            | ret s' => rfl
    | exit id => cases h; intro a w hs; exact wp_exit ⟨st, rfl, hs⟩
    | ret => cases h; intro a w hs; exact wp_ret ⟨st, rfl, hs⟩
    | _ => cases h
end
end Go.Abs

/- A function of pure data, run. -/
namespace Go.Abs
open Go.RowKit

def endSt : Out → Option St
  | .normal s => some s
  | .ret s => some s
  | .exit _ _ => none

def resP (P : Program) (rs : List ResultVar) (s : St) : Option PD :=
  match rs.mapM (resOne P s) with
  | none => none
  | some [v] => view true s.blk 8 v
  | some vs => match vs.mapM (view true s.blk 8) with
    | some ds => some (.tup ds)
    | none => none

def endP (P : Program) (rs : List ResultVar) (o : Option Out) : Option PD :=
  match o with
  | some (.normal s) => resP P rs s
  | some (.ret s) => resP P rs s
  | _ => none

def runP (P : Program) (Γ : Gam) (k : Nat) (f : FuncId) (ds : List PD) : Option PD :=
  match P.funcs[f]? with
  | none => none
  | some fn => match fn.body with
    | none => none
    | some c => match Nat.ble ds.length fn.ntmps with
      | true => endP P fn.results.toList (evalCode P Γ fn.ntmps [] k c (entry ds))
      | false => none

/-- Every drawn region of the function is one whose order makes no difference. -/
def drawsOk (P : Program) (Γ : Gam) (f : FuncId) : Bool :=
  match P.funcs[f]? with
  | none => true
  | some fn => match fn.body with
    | none => true
    | some c => drawOk P Γ c

section
variable {P : Program} {Γ : Gam}

theorem res_fin {fn : Func} {I : Nat → Prop} {w : World} {s : St} {a' : Act} {w' : World} {r : PD} (hr : resP P fn.results.toList s = some r)
    (hs : SRel { P, w0 := w, I0 := I, fix := fun _ => True, n := fn.ntmps } s a' w') :
    a'.defers = [] ∧ ∃ v, (results fn a'.tmps).run P w' = .ok v w' ∧ ∃ x, Ending.returned v = .returned x ∧ Below w.heap.size w w' ∧ VRel (fun b => I b ∨ (w.heap.size ≤ b ∧ b < w'.heap.size)) w' r x := by
  obtain ⟨I', ρ', hs⟩ := hs
  unfold resP at hr
  split at hr
  · cases hr
  all_goals
    rename_i hv
    obtain ⟨ys, y1, y2, y3⟩ := res_run hs hv
    have hI1 : ∀ b, I' b → I b ∨ (w.heap.size ≤ b ∧ b < w'.heap.size) := by
      intro b hb'
      have hlt := hs.heap.imm b hb'
      rcases hs.new b hb' with k | k | k
      · exact .inl k
      · exact .inr ⟨k, hlt⟩
      · exact absurd trivial k
    have hI2 : true = true → ∀ q B b o ct sz, s.blk q = some B → B.owned = true → ρ' q = .at b o ct sz → I b ∨ (w.heap.size ≤ b ∧ b < w'.heap.size) := by
      intro _ q B b o ct sz hq hB hp
      exact .inr ⟨hs.own q B b _ _ _ hq hB hp trivial, (hs.heap.placed_lt hq hB hp).1⟩
    refine ⟨hs.defers, _, y3, _, rfl, hs.frame.below, ?_⟩
  · simp only [ARels] at y1; obtain ⟨y, _, rfl, hy, rfl⟩ := y1
    exact view_rel hs.heap.rel hI1 hI2 8 _ r y hr hy
  · rename_i o vs hne
    split at hr
    · rename_i ds hd
      cases hr
      have hvr := ARels.views hs.heap.rel hI1 hI2 hd y1
      have this : VRel (fun b => I b ∨ (w.heap.size ≤ b ∧ b < w'.heap.size)) w' (.tup ds) (.tuple ys.toArray) := by simp only [VRel]; exact ⟨_, rfl, by simpa using hvr⟩
      cases ys with
      | nil => exact this
      | cons y ys =>
        cases ys with
        | nil =>
          exfalso
          cases vs with
          | nil => simp [ARels] at y1
          | cons v vs =>
            cases vs with
            | nil => exact hne v rfl
            | cons u vs => simp only [ARels] at y1; obtain ⟨_, _, e1, _, _, _, e2, _⟩ := y1; cases e1; cases e2
        | cons z ys => exact this
    · cases hr

theorem runP_sound (hm : P.follows .mixedOrders = true) (hΓ : GamOk P Γ) {f : FuncId} (hd : drawsOk P Γ f = true) (k : Nat) : PSound P f (runP P Γ k f) := by
  intro I w ds xs r hr hI hx
  unfold runP at hr
  split at hr
  · cases hr
  rename_i fn hf
  split at hr
  · cases hr
  rename_i c hb
  split at hr
  case h_2 => cases hr
  rename_i hn
  have hn := Nat.le_of_ble_eq_true hn
  unfold drawsOk at hd
  rw [hf] at hd; simp only at hd; rw [hb] at hd; simp only at hd
  have hE := entry_rel (P := P) hI hx hn
  unfold endP at hr
  split at hr
  · rename_i s he
    refine calls_of_wp hf hb (Go.wp_mono (evalCode_sound (C := { P, w0 := w, I0 := I, fix := fun _ => True, n := fn.ntmps }) hm hΓ (fun _ h => h.elim) k c _ _ hd he _ _ hE) ?_)
    intro e a' w' hx
    cases e with
    | normal => obtain ⟨s', e, hs'⟩ := hx; cases e; exact res_fin hr hs'
    | exit i => obtain ⟨s', e, hs'⟩ := hx; cases e
    | ret => obtain ⟨s', e, hs'⟩ := hx; cases e
    | _ => exact hx.elim
  · rename_i s he
    refine calls_of_wp hf hb (Go.wp_mono (evalCode_sound (C := { P, w0 := w, I0 := I, fix := fun _ => True, n := fn.ntmps }) hm hΓ (fun _ h => h.elim) k c _ _ hd he _ _ hE) ?_)
    intro e a' w' hx
    cases e with
    | normal => obtain ⟨s', e, hs'⟩ := hx; cases e
    | exit i => obtain ⟨s', e, hs'⟩ := hx; cases e
    | ret => obtain ⟨s', e, hs'⟩ := hx; cases e; exact res_fin hr hs'
    | _ => exact hx.elim
  · cases hr
end
end Go.Abs

/- A function that works on blocks of its caller's, run. -/
namespace Go.Abs
open Go.RowKit

def wrapR (r : Ref) : Option Ref := some (.out r)

def wrapBlk (R : List Ref) (blk : Blk) : Blk
  | .out r => match R.contains r with
    | true => match blk r with
      | some B => B.ren wrapR
      | none => none
    | false => none
  | .loc _ _ => none

def closedB (blk : Blk) (R : List Ref) : Bool := R.all fun r => match blk r with
  | some B => B.names.all R.contains
  | none => false

def entryG (args : List AV) : Nat → AV := fun t => match args[t]? with
  | some v => v
  | none => .und

def nameT (d : Nat) (R L : List Ref) : List (Ref × Ref) := R.map (fun r => (r, .out r)) ++ L.zipIdx.map fun (q, i) => (.loc d i, q)
def outTab (s : Blk) (h : Ref → Option Ref) : List (Ref × Ref) → Option (List (Ref × Ref × Block))
  | [] => some []
  | (r, q) :: T => match s q with
    | none => none
    | some B => match B.ren h, outTab s h T with
      | some B, some N => some ((r, q, B) :: N)
      | _, _ => none

def findO : List (Ref × Ref × Block) → Ref → Option (Ref × Block)
  | [], _ => none
  | (r, q) :: N, x => if x = r then some q else findO N x

def over (N : List (Ref × Ref × Block)) (blk : Blk) : Blk := fun r => match findO N r with
  | some (_, B) => some B
  | none => blk r

def resG (vs : List AV) : AV := match vs with
  | [v] => v
  | vs => .tup vs

def endG (P : Program) (d : Nat) (R : List Ref) (rs : List ResultVar) (blk : Blk) (s : St) : Option (AV × Blk) :=
  match rs.mapM (resOne P s) with
  | none => none
  | some vs =>
    let v := resG vs
    let L := (reachL s.blk 256 (v.names ++ R.map .out) []).filter isLoc
    let T := nameT d R L
    match Nat.ble L.length 4 && distinct (T.map (·.1)) && distinct (T.map (·.2)) with
    | false => none
    | true => match v.ren (newName T), outTab s.blk (newName T) T with
      | some v, some N => some (v, over N blk)
      | _, _ => none

def runG (P : Program) (Γ : Gam) (k : Nat) (f : FuncId) (d : Nat) (args : List AV) (blk : Blk) : Option (AV × Blk) :=
  match P.funcs[f]? with
  | none => none
  | some fn => match fn.body with
    | none => none
    | some c =>
      let R := reachL blk 256 (AV.namess args) []
      match Nat.ble args.length fn.ntmps && closedB blk R && (AV.namess args).all R.contains, AV.rens wrapR args with
      | true, some args => match evalCode P Γ fn.ntmps (R.map .out) k c ⟨entryG args, wrapBlk R blk⟩ with
        | some (.normal s) => endG P d R fn.results.toList blk s
        | some (.ret s) => endG P d R fn.results.toList blk s
        | _ => none
      | _, _ => none

section
variable {P : Program} {Γ : Gam}

theorem findO_mem : ∀ {N : List (Ref × Ref × Block)} {r : Ref} {q : Ref × Block}, findO N r = some q → (r, q) ∈ N
  | [], _, _, h => by simp [findO] at h
  | (r0, q0) :: N, r, q, h => by
    simp only [findO] at h
    split at h
    · cases h; subst_vars; simp
    · simp [findO_mem h]
theorem findO_none : ∀ {N : List (Ref × Ref × Block)} {r : Ref}, findO N r = none → ∀ q, (r, q) ∉ N
  | [], _, _, _, h => by cases h
  | (r0, q0) :: N, r, h, q, hm => by
    simp only [findO] at h
    split at h
    · cases h
    · rename_i hne
      rcases List.mem_cons.1 hm with e | hm
      · cases e; exact hne rfl
      · exact findO_none h q hm
theorem distinct_fst : ∀ {T : List (Ref × Ref)}, distinct (T.map (·.1)) = true → ∀ {r q q'}, (r, q) ∈ T → (r, q') ∈ T → q = q'
  | [], _, _, _, _, h, _ => by cases h
  | (r0, q0) :: T, hd, r, q, q', h, h' => by
    simp only [List.map_cons, distinct, Bool.and_eq_true, Bool.not_eq_true', List.contains_eq_mem, decide_eq_false_iff_not] at hd
    have notin : ∀ q, (r0, q) ∉ T := fun q hm => hd.1 (List.mem_map.2 ⟨_, hm, rfl⟩)
    rcases List.mem_cons.1 h with e | g
    · rcases List.mem_cons.1 h' with e' | g'
      · cases e; cases e'; rfl
      · cases e; exact (notin _ g').elim
    · rcases List.mem_cons.1 h' with e' | g'
      · cases e'; exact (notin _ g).elim
      · exact distinct_fst hd.2 g g'
theorem distinct_snd : ∀ {T : List (Ref × Ref)}, distinct (T.map (·.2)) = true → ∀ {r r' q}, (r, q) ∈ T → (r', q) ∈ T → r = r'
  | [], _, _, _, _, h, _ => by cases h
  | (r0, q0) :: T, hd, r, r', q, h, h' => by
    simp only [List.map_cons, distinct, Bool.and_eq_true, Bool.not_eq_true', List.contains_eq_mem, decide_eq_false_iff_not] at hd
    have notin : ∀ r, (r, q0) ∉ T := fun r hm => hd.1 (List.mem_map.2 ⟨_, hm, rfl⟩)
    rcases List.mem_cons.1 h with e | g
    · rcases List.mem_cons.1 h' with e' | g'
      · cases e; cases e'; rfl
      · cases e; exact (notin _ g').elim
    · rcases List.mem_cons.1 h' with e' | g'
      · cases e'; exact (notin _ g).elim
      · exact distinct_snd hd.2 g g'

theorem outTab_spec {s : Blk} {h : Ref → Option Ref} : ∀ {T : List (Ref × Ref)} {N : List (Ref × Ref × Block)}, outTab s h T = some N →
    (∀ r q B, (r, q, B) ∈ N → (r, q) ∈ T ∧ ∃ B0, s q = some B0 ∧ B0.ren h = some B) ∧ (∀ r q, (r, q) ∈ T → ∃ B, (r, q, B) ∈ N)
  | [], N, e => by cases e; exact ⟨fun _ _ _ h => (by cases h), fun _ _ h => (by cases h)⟩
  | (r0, q0) :: T, N, e => by
    simp only [outTab] at e
    split at e
    · cases e
    rename_i B0 hB
    split at e
    · rename_i B N' h1 h2
      cases e
      obtain ⟨k1, k2⟩ := outTab_spec h2
      refine ⟨fun r q B' hm => ?_, fun r q hm => ?_⟩
      · rcases List.mem_cons.1 hm with e | hm
        · cases e; exact ⟨by simp, B0, hB, h1⟩
        · obtain ⟨a, b⟩ := k1 r q B' hm; exact ⟨by simp [a], b⟩
      · rcases List.mem_cons.1 hm with e | hm
        · cases e; exact ⟨B, by simp⟩
        · obtain ⟨B', hm'⟩ := k2 r q hm; exact ⟨B', by simp [hm']⟩
    · cases e

theorem nameT_mem {d : Nat} {R L : List Ref} {r q : Ref} (h : (r, q) ∈ nameT d R L) : (r ∈ R ∧ q = .out r) ∨ ∃ i, i < L.length ∧ r = .loc d i := by
  unfold nameT at h
  rcases List.mem_append.1 h with h | h
  · obtain ⟨x, hx, e⟩ := List.mem_map.1 h; cases e; exact .inl ⟨hx, rfl⟩
  · obtain ⟨⟨x, i⟩, hx, e⟩ := List.mem_map.1 h; cases e
    have := List.mem_zipIdx hx
    exact .inr ⟨i, by omega, rfl⟩
theorem nameT_R {d : Nat} {R L : List Ref} {r : Ref} (h : r ∈ R) : (r, .out r) ∈ nameT d R L := by
  unfold nameT; exact List.mem_append.2 (.inl (List.mem_map.2 ⟨r, h, rfl⟩))

end
end Go.Abs

/- Functions that work on blocks of their callers': what the run says holds. -/
namespace Go.Abs
open Go.RowKit

section
variable {P : Program} {Γ : Gam}

def wrapP (ρ : Ref → Pl) : Ref → Pl
  | .out r => ρ r
  | .loc _ _ => .gone

def ctxG (P : Program) (w : World) (I : Nat → Prop) (R : List Ref) (blk : Blk) (ρ : Ref → Pl) (n : Nat) : Ctx :=
  { P, w0 := w, I0 := I, fix := fun b => ¬ Held (· ∈ R) blk ρ b, n, D0 := fun q => ∃ r, r ∈ R ∧ q = .out r, ρ0 := wrapP ρ }

theorem wrapBlk_out {R : List Ref} {blk : Blk} {q : Ref} {B' : Block} (h : wrapBlk R blk q = some B') : ∃ r B, q = .out r ∧ r ∈ R ∧ blk r = some B ∧ B.ren wrapR = some B' := by
  cases q with
  | loc _ _ => cases h
  | out r =>
    simp only [wrapBlk] at h
    split at h
    · rename_i hR
      split at h
      · rename_i B hB; exact ⟨r, B, rfl, by simpa using hR, hB, h⟩
      · cases h
    · cases h

mutual
theorem AV.ren_wrap : ∀ v : AV, ∃ u, v.ren wrapR = some u
  | .und => ⟨_, rfl⟩
  | .pd d => ⟨_, rfl⟩
  | .nil => ⟨_, rfl⟩
  | .agg cs => by obtain ⟨a, ha⟩ := AV.rens_wrap cs; exact ⟨.agg a, by simp only [AV.ren, ha]⟩
  | .tup cs => by obtain ⟨a, ha⟩ := AV.rens_wrap cs; exact ⟨.tup a, by simp only [AV.ren, ha]⟩
  | .ptr r o => ⟨_, rfl⟩
  | .eptr r i o => ⟨_, rfl⟩
  | .sl r sz o n => ⟨_, rfl⟩
  | .clo f a b => by obtain ⟨a', ha⟩ := AV.rens_wrap a; obtain ⟨b', hb⟩ := AV.rens_wrap b; exact ⟨.clo f a' b', by simp only [AV.ren, ha, hb]⟩
  | .iface t v => by obtain ⟨a, ha⟩ := AV.ren_wrap v; exact ⟨.iface t a, by simp only [AV.ren, ha]⟩
theorem AV.rens_wrap : ∀ vs : List AV, ∃ us, AV.rens wrapR vs = some us
  | [] => ⟨[], rfl⟩
  | v :: vs => by
    obtain ⟨u, hu⟩ := AV.ren_wrap v
    obtain ⟨us, hus⟩ := AV.rens_wrap vs
    exact ⟨u :: us, by simp only [AV.rens, hu, hus]⟩
end

theorem wrapBlk_dom {R : List Ref} {blk : Blk} (hc : closedB blk R = true) {r : Ref} (hr : r ∈ R) : dom (wrapBlk R blk) (.out r) := by
  have h1 := List.all_eq_true.1 hc r hr
  cases hB : blk r with
  | none => rw [hB] at h1; cases h1
  | some B =>
    have hR : R.contains r = true := by simpa using hr
    simp only [dom, wrapBlk, hR, hB]
    cases B with
    | vars cs => obtain ⟨us, hu⟩ := AV.rens_wrap cs; simp only [Block.ren, hu]; rfl
    | _ => rfl

theorem closed_names {R : List Ref} {blk : Blk} (hc : closedB blk R = true) {r : Ref} (hr : r ∈ R) {B : Block} (hB : blk r = some B) : B.ok (· ∈ R) := by
  have h1 := List.all_eq_true.1 hc r hr
  rw [hB] at h1
  rw [← Block.names_ok]
  intro x hx
  simpa using List.all_eq_true.1 h1 x hx

theorem entryG_rel {I : Nat → Prop} {w : World} {ρ : Ref → Pl} {blk : Blk} {R : List Ref} {n : Nat} {args args' : List AV} {xs : List Value} (h : HRel I ρ w blk) (hx : ARels I w ρ args xs)
    (hn : args.length ≤ n) (hc : closedB blk R = true) (ha : AV.oks (· ∈ R) args) (hw : AV.rens wrapR args = some args') :
    SRel (ctxG P w I R blk ρ n) ⟨entryG args', wrapBlk R blk⟩ { tmps := xs.toArray ++ Array.replicate (n - xs.toArray.size) undef, defers := [] } w := by
  have hxl := hx.length
  have hh : ∀ r r', wrapR r = some r' → wrapP ρ r' = ρ r ∨ wrapP ρ r' = .gone := by intro r r' e; cases e; exact .inl rfl
  have hargs : ARels I w (wrapP ρ) args' xs := AV.rens_rel hh args args' xs hw hx
  have hdom : ∀ r r', r ∈ R → wrapR r = some r' → dom (wrapBlk R blk) r' := by intro r r' hr e; cases e; exact wrapBlk_dom hc hr
  have hargsok : AV.oks (dom (wrapBlk R blk)) args' := AV.rens_ok hdom args args' hw ha
  refine ⟨I, wrapP ρ, rfl, ?_, ⟨h.imm, ?_, ?_, ?_⟩, fun _ k => k, fun _ k => .inl k, Frame.refl _ _, ?_, fun t => ?_, fun t => ?_, ?_⟩
  · simp [ctxG]; omega
  · intro q B' hq
    obtain ⟨r, B, rfl, hr, hB, e⟩ := wrapBlk_out hq
    exact BRel.ren hh rfl e (h.rel r B hB)
  · intro q q' B B' b o ct sz o' ct' sz' hq hO hq' hO' hp hp'
    obtain ⟨r, B1, rfl, hr, hB, e⟩ := wrapBlk_out hq
    obtain ⟨r', B1', rfl, hr', hB', e'⟩ := wrapBlk_out hq'
    rw [Block.ren_owned e] at hO
    rw [Block.ren_owned e'] at hO'
    rw [h.inj r r' B1 B1' b o ct sz o' ct' sz' hB hO hB' hO' hp hp']
  · intro q B' hq
    obtain ⟨r, B, rfl, hr, hB, e⟩ := wrapBlk_out hq
    exact Block.ren_ok hdom e (closed_names hc hr hB)
  · intro q B' b o ct sz hq hO hp hf
    obtain ⟨r, B, rfl, hr, hB, e⟩ := wrapBlk_out hq
    rw [Block.ren_owned e] at hO
    exact (hf ⟨r, B, o, ct, sz, hr, hB, hO, hp⟩).elim
  · simp only [entryG]
    cases ht : args'[t]? with
    | none => simp only [ARel]
    | some v =>
      obtain ⟨x, hx', hr⟩ := ARels.get hargs ht
      have : (xs.toArray ++ Array.replicate (n - xs.toArray.size) undef).getD t undef = x := by
        have hlt : t < xs.length := (List.getElem?_eq_some_iff.1 hx').1
        rw [Array.getD_eq_getD_getElem?, Array.getElem?_append_left (by simpa using hlt)]
        simp [hx']
      rw [this]; exact hr
  · simp only [entryG]
    cases ht : args'[t]? with
    | none => simp only [AV.ok]
    | some v => exact AV.oks_iff.1 hargsok v (List.mem_of_getElem? ht)
  · rintro q ⟨r, hr, rfl⟩
    exact ⟨wrapBlk_dom hc hr, .inl rfl⟩

theorem over_old {N : List (Ref × Ref × Block)} {blk : Blk} {r : Ref} (h : findO N r = none) : over N blk r = blk r := by simp only [over, h]
theorem over_new {N : List (Ref × Ref × Block)} {blk : Blk} {r q : Ref} {B : Block} (h : findO N r = some (q, B)) : over N blk r = some B := by simp only [over, h]

theorem resG_rel {I : Nat → Prop} {w : World} {ρ : Ref → Pl} {D : Ref → Prop} : ∀ {vs : List AV} {ys : List Value}, ARels I w ρ vs ys → AV.oks D vs →
    ARel I w ρ (resG vs) (match ys with | [x] => x | xs => .tuple xs.toArray) ∧ (resG vs).ok D
  | [], ys, y1, y2 => by simp only [ARels] at y1; subst y1; simp only [resG, ARel, AV.ok]; exact ⟨⟨#[], rfl, by simp [ARels]⟩, y2⟩
  | [v], ys, y1, y2 => by
    simp only [ARels] at y1; obtain ⟨y, _, rfl, hy, rfl⟩ := y1
    simp only [AV.oks] at y2
    exact ⟨hy, y2.1⟩
  | v :: u :: vs, ys, y1, y2 => by
    have y1' := y1
    simp only [ARels] at y1'; obtain ⟨y, _, rfl, _, z, zs, rfl, _⟩ := y1'
    simp only [resG, ARel, AV.ok]; exact ⟨⟨_, rfl, by simpa using y1⟩, y2⟩

/-- What the caller has behind the call. -/
theorem endG_rel {fn : Func} {I : Nat → Prop} {w : World} {ρ : Ref → Pl} {blk : Blk} {R : List Ref} {d : Nat} {s : St} {a' : Act} {w' : World} {v : AV} {blk' : Blk} (h : HRel I ρ w blk) (hfr : freshFrom blk d = true)
    (hRd : ∀ r ∈ R, dom blk r) (he : endG P d R fn.results.toList blk s = some (v, blk')) (hs : SRel (ctxG P w I R blk ρ fn.ntmps) s a' w') :
    a'.defers = [] ∧ ∃ y, (results fn a'.tmps).run P w' = .ok y w' ∧ ∃ x I' ρ', Ending.returned y = .returned x ∧ HRel I' ρ' w' blk' ∧ ARel I' w' ρ' v x ∧ v.ok (dom blk') ∧ (∀ r, dom blk r → dom blk' r) ∧ Later (dom blk) ρ ρ' ∧
      (∀ b, I b → I' b) ∧ (∀ b, I b → w'.heap[b]? = w.heap[b]?) ∧ (∀ b, I' b → I b ∨ w.heap.size ≤ b ∨ Held (fun _ => True) blk ρ b) ∧
      Frame (fun b => ¬ Held (fun _ => True) blk ρ b) w w' ∧ (∀ b, Held (fun _ => True) blk' ρ' b → w.heap.size ≤ b ∨ Held (fun _ => True) blk ρ b) := by
  obtain ⟨I', ρ1, hs⟩ := hs
  unfold endG at he
  split at he
  · cases he
  rename_i vs hvs
  simp only at he
  generalize hL : (reachL s.blk 256 ((resG vs).names ++ R.map .out) []).filter isLoc = L at he
  split at he
  · cases he
  rename_i hck
  simp only [Bool.and_eq_true] at hck
  obtain ⟨⟨hl4, hd1⟩, hd2⟩ := hck
  have hl4 := Nat.le_of_ble_eq_true hl4
  split at he
  case h_2 => cases he
  rename_i v0 N hv hN
  cases he
  obtain ⟨hN1, hN2⟩ := outTab_spec hN
  generalize hT : nameT d R L = T at *
  -- what the caller held of what it handed over, and what it kept
  have nI : ∀ b, I b → ¬ Held (· ∈ R) blk ρ b := by
    rintro b hb ⟨x, B, o, ct, sz, _, h1, h2, h3⟩
    exact (h.placed_lt h1 h2 h3).2 hb
  have kept : ∀ r B b o ct sz, r ∉ R → blk r = some B → B.owned = true → ρ r = .at b o ct sz → ¬ Held (· ∈ R) blk ρ b := by
    rintro r B b o ct sz hr hB hO hp ⟨x, B', o', ct', sz', hx, h1, h2, h3⟩
    exact hr (by rw [h.inj r x B B' b _ _ _ _ _ _ hB hO h1 h2 hp h3]; exact hx)
  have hI : ∀ b, I b → I' b := fun b hb => hs.old b hb
  have hw : ∀ b, I b → w'.heap[b]? = w.heap[b]? := fun b hb => hs.frame.block b (h.imm b hb) (nI b hb)
  have fresh : ∀ i, i < 4 → blk (.loc d i) = none := by
    intro i hi
    simp only [freshFrom, Bool.and_eq_true, Option.isNone_iff_eq_none] at hfr
    obtain ⟨⟨⟨f0, f1⟩, f2⟩, f3⟩ := hfr
    match i, hi with
    | 0, _ => exact f0
    | 1, _ => exact f1
    | 2, _ => exact f2
    | 3, _ => exact f3
  have hTm : ∀ r q, (r, q) ∈ T → (r ∈ R ∧ q = .out r) ∨ blk r = none := by
    intro r q hm
    rw [← hT] at hm
    rcases nameT_mem hm with k | ⟨i, hi, rfl⟩
    · exact .inl k
    · exact .inr (fresh i (by omega))
  let ρ' : Ref → Pl := fun r => match findO N r with
    | some (q, _) => ρ1 q
    | none => ρ r
  have ρnew : ∀ r q B, findO N r = some (q, B) → ρ' r = ρ1 q := by intro r q B hf; simp only [ρ', hf]
  have ρold : ∀ r, findO N r = none → ρ' r = ρ r := by intro r hf; simp only [ρ', hf]
  have inR : ∀ r ∈ R, ∃ B, findO N r = some (.out r, B) := by
    intro r hr
    cases hf : findO N r with
    | none =>
      obtain ⟨B, hB⟩ := hN2 r (.out r) (by rw [← hT]; exact nameT_R hr)
      exact (findO_none hf _ hB).elim
    | some qB =>
      obtain ⟨q, B⟩ := qB
      obtain ⟨hm, _⟩ := hN1 r q B (findO_mem hf)
      have := distinct_fst hd1 hm (by rw [← hT]; exact nameT_R hr)
      subst this; exact ⟨B, rfl⟩
  have later : Later (dom blk) ρ ρ' := by
    intro r hr
    cases hf : findO N r with
    | none => exact .inl (ρold r hf)
    | some qB =>
      obtain ⟨q, B⟩ := qB
      obtain ⟨hm, _⟩ := hN1 r q B (findO_mem hf)
      rcases hTm r q hm with ⟨hrR, rfl⟩ | k
      · rw [ρnew r _ B hf]
        exact (hs.tied (.out r) ⟨r, hrR, rfl⟩).2
      · simp [dom, k] at hr
  have hh : ∀ q r, newName T q = some r → ρ' r = ρ1 q ∨ ρ' r = .gone := by
    intro q r e
    have hm := newName_mem e
    obtain ⟨B, hB⟩ := hN2 r q hm
    cases hf : findO N r with
    | none => exact (findO_none hf _ hB).elim
    | some qB =>
      obtain ⟨q', B'⟩ := qB
      obtain ⟨hm', _⟩ := hN1 r q' B' (findO_mem hf)
      have := distinct_fst hd1 hm hm'
      subst this
      exact .inl (ρnew r _ _ hf)
  have domnew : ∀ q r, newName T q = some r → dom (over N blk) r := by
    intro q r e
    obtain ⟨B, hB⟩ := hN2 r q (newName_mem e)
    cases hf : findO N r with
    | none => exact (findO_none hf _ hB).elim
    | some qB => obtain ⟨q', B'⟩ := qB; simp only [dom, over_new hf]; rfl
  have domold : ∀ r, dom blk r → dom (over N blk) r := by
    intro r hr
    cases hf : findO N r with
    | none => simpa only [dom, over_old hf] using hr
    | some qB => obtain ⟨q', B'⟩ := qB; simp only [dom, over_new hf]; rfl
  have look : ∀ r B, over N blk r = some B → (∃ q B0, findO N r = some (q, B) ∧ s.blk q = some B0 ∧ B0.ren (newName T) = some B ∧ (r, q) ∈ T) ∨ (findO N r = none ∧ r ∉ R ∧ blk r = some B) := by
    intro r B hr
    cases hf : findO N r with
    | none =>
      rw [over_old hf] at hr
      refine .inr ⟨rfl, fun hrR => ?_, hr⟩
      obtain ⟨B', e⟩ := inR r hrR; rw [hf] at e; cases e
    | some qB =>
      obtain ⟨q, B'⟩ := qB
      rw [over_new hf] at hr
      cases hr
      obtain ⟨hm, B0, h1, h2⟩ := hN1 r q B (findO_mem hf)
      exact .inl ⟨q, B0, rfl, h1, h2, hm⟩
  -- where blocks lie that were made, or handed over
  have newAt : ∀ q B0 b o ct sz, s.blk q = some B0 → B0.owned = true → ρ1 q = .at b o ct sz → w.heap.size ≤ b ∨ Held (· ∈ R) blk ρ b := by
    intro q B0 b o ct sz h1 h2 h3
    rcases Classical.em (Held (· ∈ R) blk ρ b) with k | k
    · exact .inr k
    · exact .inl (hs.own q B0 b o ct sz h1 h2 h3 k)
  have hnewI : ∀ b, I' b → I b ∨ w.heap.size ≤ b ∨ Held (· ∈ R) blk ρ b := by
    intro b hb
    rcases hs.new b hb with k | k | k
    · exact .inl k
    · exact .inr (.inl k)
    · exact .inr (.inr (Classical.not_not.1 k))
  have heap' : HRel I' ρ' w' (over N blk) := by
    refine ⟨hs.heap.imm, ?_, ?_, ?_⟩
    · intro r B hr
      rcases look r B hr with ⟨q, B0, hf, h1, h2, hm⟩ | ⟨hf, hrR, h1⟩
      · exact BRel.ren hh (ρnew r q B hf) h2 (hs.heap.rel q B0 h1)
      · refine (h.rel r B h1).mono (D := dom blk) hI hw later (ρold r hf) (h.ok r B h1) ?_
        intro b o ct sz hp hO
        have hlt := h.placed_lt h1 hO hp
        have hk := kept r B b o ct sz hrR h1 hO hp
        refine ⟨hs.frame.block b hlt.1 hk, fun hb => ?_⟩
        rcases hnewI b hb with k | k | k
        · exact hlt.2 k
        · exact absurd hlt.1 (by omega)
        · exact hk k
    · intro r r' B B' b o ct sz o' ct' sz' hr hO hr' hO' hp hp'
      rcases look r B hr with ⟨q, B0, hf, h1, h2, hm⟩ | ⟨hf, hrR, h1⟩
      · rcases look r' B' hr' with ⟨q', B0', hf', h1', h2', hm'⟩ | ⟨hf', hrR', h1'⟩
        · rw [ρnew r q B hf] at hp
          rw [ρnew r' q' B' hf'] at hp'
          rw [Block.ren_owned h2] at hO
          rw [Block.ren_owned h2'] at hO'
          have := hs.heap.inj q q' B0 B0' b _ _ _ _ _ _ h1 hO h1' hO' hp hp'
          subst this
          exact distinct_snd hd2 hm hm'
        · rw [ρnew r q B hf] at hp
          rw [ρold r' hf'] at hp'
          rw [Block.ren_owned h2] at hO
          have hlt := h.placed_lt h1' hO' hp'
          have hk := kept r' B' b _ _ _ hrR' h1' hO' hp'
          rcases newAt q B0 b _ _ _ h1 hO hp with k | k
          · exact absurd hlt.1 (by omega)
          · exact (hk k).elim
      · rcases look r' B' hr' with ⟨q', B0', hf', h1', h2', hm'⟩ | ⟨hf', hrR', h1'⟩
        · rw [ρold r hf] at hp
          rw [ρnew r' q' B' hf'] at hp'
          rw [Block.ren_owned h2'] at hO'
          have hlt := h.placed_lt h1 hO hp
          have hk := kept r B b _ _ _ hrR h1 hO hp
          rcases newAt q' B0' b _ _ _ h1' hO' hp' with k | k
          · exact absurd hlt.1 (by omega)
          · exact (hk k).elim
        · rw [ρold r hf] at hp
          rw [ρold r' hf'] at hp'
          exact h.inj r r' B B' b _ _ _ _ _ _ h1 hO h1' hO' hp hp'
    · intro r B hr
      rcases look r B hr with ⟨q, B0, hf, h1, h2, hm⟩ | ⟨hf, hrR, h1⟩
      · exact Block.ren_ok (D := dom s.blk) (fun q r _ e => domnew q r e) h2 (hs.heap.ok q B0 h1)
      · have := h.ok r B h1
        cases B with
        | vars cs => exact AV.oks.mono domold cs this
        | _ => trivial
  obtain ⟨ys, y1, y2, y3⟩ := res_run hs hvs
  have hres := resG_rel y1 y2
  refine ⟨hs.defers, _, y3, _, I', ρ', rfl, heap', AV.ren_rel hh _ _ _ hv hres.1, AV.ren_ok (D := dom s.blk) (fun q r _ e => domnew q r e) _ _ hv hres.2, domold, later, hI, hw, ?_, ?_, ?_⟩
  · intro b hb
    rcases hnewI b hb with k | k | ⟨x, B, o, ct, sz, _, k⟩
    · exact .inl k
    · exact .inr (.inl k)
    · exact .inr (.inr ⟨x, B, o, ct, sz, trivial, k⟩)
  · refine ⟨hs.frame.os, hs.frame.tape, hs.frame.output, hs.frame.size, fun b hb hk => hs.frame.block b hb ?_⟩
    rintro ⟨x, B, o, ct, sz, _, k⟩
    exact hk ⟨x, B, o, ct, sz, trivial, k⟩
  · rintro b ⟨r, B, o, ct, sz, _, hr, hO, hp⟩
    rcases look r B hr with ⟨q, B0, hf, h1, h2, hm⟩ | ⟨hf, hrR, h1⟩
    · rw [ρnew r q B hf] at hp
      rw [Block.ren_owned h2] at hO
      rcases newAt q B0 b _ _ _ h1 hO hp with k | ⟨x, B', o', ct', sz', _, k⟩
      · exact .inl k
      · exact .inr ⟨x, B', o', ct', sz', trivial, k⟩
    · rw [ρold r hf] at hp
      exact .inr ⟨r, B, o, ct, sz, trivial, h1, hO, hp⟩
end
end Go.Abs

/- Functions that work on blocks of their callers': the contract. -/
namespace Go.Abs
open Go.RowKit

section
variable {P : Program} {Γ : Gam}

/-- What a run is made of. -/
theorem runG_parts {k : Nat} {f : FuncId} {d : Nat} {args : List AV} {blk : Blk} {v : AV} {blk' : Blk} (h : runG P Γ k f d args blk = some (v, blk')) :
    ∃ fn c R args' o s, P.funcs[f]? = some fn ∧ fn.body = some c ∧ R = reachL blk 256 (AV.namess args) [] ∧ args.length ≤ fn.ntmps ∧ closedB blk R = true ∧ (AV.namess args).all R.contains = true ∧
      AV.rens wrapR args = some args' ∧ evalCode P Γ fn.ntmps (R.map .out) k c ⟨entryG args', wrapBlk R blk⟩ = some o ∧ endSt o = some s ∧ endG P d R fn.results.toList blk s = some (v, blk') := by
  unfold runG at h
  split at h
  · cases h
  rename_i fn hf
  split at h
  · cases h
  rename_i c hb
  simp only at h
  split at h
  · rename_i args' hck hw
    simp only [Bool.and_eq_true] at hck
    split at h
    · rename_i s he; exact ⟨fn, c, _, args', _, s, hf, hb, rfl, Nat.le_of_ble_eq_true hck.1.1, hck.1.2, hck.2, hw, he, rfl, h⟩
    · rename_i s he; exact ⟨fn, c, _, args', _, s, hf, hb, rfl, Nat.le_of_ble_eq_true hck.1.1, hck.1.2, hck.2, hw, he, rfl, h⟩
    · cases h
  · cases h

/-- The names that are handed out are the caller's, or new. -/
theorem endG_parts {d : Nat} {R : List Ref} {rs : List ResultVar} {blk : Blk} {s : St} {v : AV} {blk' : Blk} (h : endG P d R rs blk s = some (v, blk')) :
    ∃ vs L T N, rs.mapM (resOne P s) = some vs ∧ L.length ≤ 4 ∧ T = nameT d R L ∧ (resG vs).ren (newName T) = some v ∧ outTab s.blk (newName T) T = some N ∧ blk' = over N blk := by
  unfold endG at h
  split at h
  · cases h
  rename_i vs hvs
  simp only at h
  split at h
  · cases h
  rename_i hck
  simp only [Bool.and_eq_true] at hck
  split at h
  case h_2 => cases h
  rename_i v0 N hv hN
  cases h
  exact ⟨vs, _, _, N, hvs, Nat.le_of_ble_eq_true hck.1.1, rfl, hv, hN, rfl⟩

theorem over_dom {d : Nat} {R L : List Ref} {h : Ref → Option Ref} {s blk : Blk} {N : List (Ref × Ref × Block)} (hN : outTab s h (nameT d R L) = some N) (hR : ∀ r ∈ R, dom blk r) {e : Ref} (he : blk e = none)
    (hd : ∀ i, e ≠ .loc d i) : findO N e = none := by
  cases hf : findO N e with
  | none => rfl
  | some qB =>
    obtain ⟨q, B⟩ := qB
    obtain ⟨hm, _⟩ := (outTab_spec hN).1 e q B (findO_mem hf)
    rcases nameT_mem hm with ⟨k, _⟩ | ⟨i, _, k⟩
    · have := hR e k; simp [dom, he] at this
    · exact (hd i k).elim

/-- The end of the run, with a block more that it does not know of. -/
theorem endG_lone {d : Nat} {R : List Ref} {rs : List ResultVar} {blk : Blk} {s : St} (hR : ∀ r ∈ R, dom blk r) {e : Ref} {B : Block} (he : blk e = none) (hd : ∀ i, e ≠ .loc d i) :
    endG P d R rs (upd blk e (some B)) s = (endG P d R rs blk s).map fun (v, b) => (v, upd b e (some B)) := by
  unfold endG
  cases rs.mapM (resOne P s) with
  | none => rfl
  | some vs =>
    simp only
    generalize (reachL s.blk 256 ((resG vs).names ++ R.map .out) []).filter isLoc = L
    split
    · rfl
    · split
      · rename_i v N hv hN
        simp only [Option.map_some, Option.some.injEq, Prod.mk.injEq, true_and]
        funext x
        by_cases hx : x = e
        · subst hx
          rw [upd_same]
          simp only [over, over_dom hN hR he hd, upd_same]
        · rw [upd_ne _ _ hx]
          simp only [over, upd_ne _ _ hx]
      · rfl

theorem namess_dom {blk : Blk} {args : List AV} (ha : AV.oks (dom blk) args) : ∀ r ∈ AV.namess args, dom blk r := (AV.namess_ok args).2 ha

theorem runG_sound (hm : P.follows .mixedOrders = true) (hΓ : GamOk P Γ) {f : FuncId} (hd : drawsOk P Γ f = true) (k : Nat) : GSound P f (runG P Γ k f) := {
  calls := by
    intro d args blk v blk' hg hfr I ρ w xs h hargs hx
    obtain ⟨fn, c, R, args', o, s, hf, hb, hR, hn, hc, ha, hw, he, hes, hend⟩ := runG_parts hg
    have hRd : ∀ r ∈ R, dom blk r := by subst hR; exact reachL_dom h.ok _ _ _ (namess_dom hargs) (by simp)
    have ha' : AV.oks (· ∈ R) args := (AV.namess_ok args).1 fun r hr => by simpa using List.all_eq_true.1 ha r hr
    have hE := entryG_rel (P := P) (n := fn.ntmps) h hx hn hc ha' hw
    unfold drawsOk at hd
    rw [hf] at hd; simp only at hd; rw [hb] at hd; simp only at hd
    refine calls_of_wp hf hb (Go.wp_mono (evalCode_sound (C := ctxG P w I R blk ρ fn.ntmps) hm hΓ (by rintro q ⟨r, hr, rfl⟩; exact List.mem_map.2 ⟨r, hr, rfl⟩) k c _ _ hd he _ _ hE) ?_)
    intro e a' w' hx'
    cases e with
    | normal => obtain ⟨s', e, hs'⟩ := hx'; subst e; cases hes; exact endG_rel h hfr hRd hend hs'
    | exit i => obtain ⟨s', e, hs'⟩ := hx'; subst e; cases hes
    | ret => obtain ⟨s', e, hs'⟩ := hx'; subst e; cases hes; exact endG_rel h hfr hRd hend hs'
    | _ => exact hx'.elim
  lone := by
    intro d args blk e B he hdi hargs hblk
    have hn : ∀ r ∈ AV.namess args, dom blk r := namess_dom hargs
    have hRd : ∀ r ∈ reachL blk 256 (AV.namess args) [], dom blk r := reachL_dom hblk _ _ _ hn (by simp)
    have hRe : reachL (upd blk e (some B)) 256 (AV.namess args) [] = reachL blk 256 (AV.namess args) [] := reachL_lone hblk he _ _ _ hn
    unfold runG
    rw [hRe]
    cases hf : P.funcs[f]? with
    | none => rfl
    | some fn =>
      simp only
      cases fn.body with
      | none => rfl
      | some c =>
        simp only
        generalize hRR : reachL blk 256 (AV.namess args) [] = R at hRd
        have hne : ∀ r ∈ R, r ≠ e := by rintro r hr rfl; have := hRd r hr; simp [dom, he] at this
        have hcl : closedB (upd blk e (some B)) R = closedB blk R := by
          unfold closedB
          apply Bool.eq_iff_iff.2
          simp only [List.all_eq_true]
          exact ⟨fun k r hr => by have := k r hr; rwa [upd_ne _ _ (hne r hr)] at this, fun k r hr => by rw [upd_ne _ _ (hne r hr)]; exact k r hr⟩
        have hwr : wrapBlk R (upd blk e (some B)) = wrapBlk R blk := by
          funext q
          cases q with
          | loc _ _ => rfl
          | out r =>
            simp only [wrapBlk]
            split
            · rename_i hr; rw [upd_ne _ _ (hne r (by simpa using hr))]
            · rfl
        rw [hcl, hwr]
        split
        · split
          · exact endG_lone hRd he hdi
          · exact endG_lone hRd he hdi
          · rfl
        · rfl
  news := by
    intro d args blk v blk' hg e he hdi
    obtain ⟨fn, c, R, args', o, s, hf, hb, hR, hn, hc, ha, hw, hev, hes, hend⟩ := runG_parts hg
    obtain ⟨vs, L, T, N, h1, h2, rfl, h3, h4, rfl⟩ := endG_parts hend
    have hRd : ∀ r ∈ R, dom blk r := by
      intro r hr
      have := List.all_eq_true.1 hc r hr
      cases hB : blk r with
      | none => rw [hB] at this; cases this
      | some B => simp [dom, hB]
    rw [over_old (over_dom h4 hRd he hdi)]; exact he
  ok := by
    intro d args blk v blk' hg hargs hblk
    obtain ⟨fn, c, R, args', o, s, hf, hb, hR, hn, hc, ha, hw, hev, hes, hend⟩ := runG_parts hg
    obtain ⟨vs, L, T, N, h1, h2, rfl, h3, h4, rfl⟩ := endG_parts hend
    have hN := outTab_spec h4
    have domnew : ∀ q r, newName (nameT d R L) q = some r → dom (over N blk) r := by
      intro q r e
      obtain ⟨B, hB⟩ := hN.2 r q (newName_mem e)
      cases hf : findO N r with
      | none => exact (findO_none hf _ hB).elim
      | some qB => obtain ⟨q', B'⟩ := qB; simp only [dom, over_new hf]; rfl
    have domold : ∀ r, dom blk r → dom (over N blk) r := by
      intro r hr
      cases hf : findO N r with
      | none => simpa only [dom, over_old hf] using hr
      | some qB => obtain ⟨q', B'⟩ := qB; simp only [dom, over_new hf]; rfl
    have triv : ∀ v : AV, v.ok (fun _ => True) := fun v => (AV.names_ok v).1 fun _ _ => trivial
    refine ⟨AV.ren_ok (D := fun _ => True) (fun q r _ e => domnew q r e) _ _ h3 (triv _), domold, ?_⟩
    intro r X hr
    cases hf : findO N r with
    | none =>
      rw [over_old hf] at hr
      have := hblk r X hr
      cases X with
      | vars cs => exact AV.oks.mono domold cs this
      | _ => trivial
    | some qB =>
      obtain ⟨q, B⟩ := qB
      rw [over_new hf] at hr
      cases hr
      obtain ⟨_, B0, k1, k2⟩ := hN.1 r q X (findO_mem hf)
      exact Block.ren_ok (D := fun _ => True) (fun q r _ e => domnew q r e) k2 ((Block.names_ok B0).1 fun _ _ => trivial) }
end
end Go.Abs

/- All functions' contracts out of their runs. -/
namespace Go.Abs
open Go.RowKit

/-- Which functions' runs are taken, with how much fuel; who is called on blocks that are written (by caller and callee); what is known otherwise. -/
structure Tab where
  fs : List FuncId
  fuel : Nat
  own : FuncId → FuncId → Bool
  given : FuncId → FuncId → Option Spec

def gam (P : Program) (T : Tab) : Nat → FuncId → Gam
  | 0, c => fun f => match T.given c f with
    | some s => some s
    | none => match T.fs.contains f with
      | true => match T.own c f with
        | true => some (.g fun _ _ _ => none)
        | false => some (.p fun _ => none)
      | false => none
  | k + 1, c => fun f => match T.given c f with
    | some s => some s
    | none => match T.fs.contains f with
      | true => match T.own c f with
        | true => some (.g (runG P (gam P T k f) T.fuel f))
        | false => some (.p (runP P (gam P T k f) T.fuel f))
      | false => none

def entersB (P : Program) (f : FuncId) : Bool := match P.funcs[f]? with
  | some fn => !(fn.name == "runtime.NumGoroutine") && fn.body.isSome
  | none => false

def isG : Option Spec → Bool
  | some (.g _) => true
  | _ => false

section
variable {P : Program} {Γ Γ' : Gam}

theorem cls_congr (h : ∀ f, isG (Γ f) = isG (Γ' f)) (o : Op) : cls P Γ o = cls P Γ' o := by
  unfold cls
  split <;> try rfl
  rename_i f _ _
  have := h f
  cases h1 : Γ f with
  | none =>
    cases h2 : Γ' f with
    | none => rfl
    | some s => cases s with
      | p _ => rfl
      | g _ => rw [h1, h2] at this; cases this
  | some s =>
    cases s with
    | p _ => cases h2 : Γ' f with
      | none => rfl
      | some s' => cases s' with
        | p _ => rfl
        | g _ => rw [h1, h2] at this; cases this
    | g _ => cases h2 : Γ' f with
      | none => rw [h1, h2] at this; cases this
      | some s' => cases s' with
        | p _ => rw [h1, h2] at this; cases this
        | g _ => rfl

theorem drawOk_congr (h : ∀ f, isG (Γ f) = isG (Γ' f)) : ∀ c : Code, drawOk P Γ c = drawOk P Γ' c := by
  have hc : cls P Γ = cls P Γ' := funext fun o => cls_congr h o
  intro c
  induction c with
  | region id ops draw => simp only [drawOk, regionSoft, pairsSoft, freeOf, hc]
  | seq a b iha ihb => simp only [drawOk, iha, ihb]
  | cond x a b iha ihb => simp only [drawOk, iha, ihb]
  | block id c ih => simp only [drawOk, ih]
  | loop c ih => simp only [drawOk, ih]
  | _ => rfl

theorem drawsOk_congr (h : ∀ f, isG (Γ f) = isG (Γ' f)) (f : FuncId) : drawsOk P Γ f = drawsOk P Γ' f := by
  unfold drawsOk
  split
  · rfl
  · split
    · rfl
    · exact drawOk_congr h _

theorem gam_isG {T : Tab} (c : FuncId) : ∀ (k : Nat) (f : FuncId), isG (gam P T k c f) = isG (gam P T 0 c f)
  | 0, _ => rfl
  | k + 1, f => by
    simp only [gam]
    cases T.given c f with
    | some s => rfl
    | none =>
      cases T.fs.contains f with
      | false => rfl
      | true => cases T.own c f <;> rfl

/-- The functions that are taken can be entered, and the order in their regions makes no difference. -/
def tabOkay (P : Program) (T : Tab) : Bool := T.fs.all fun f => entersB P f && drawsOk P (gam P T 0 f) f

theorem enters_of_B {f : FuncId} (h : entersB P f = true) : Enters P f := by
  unfold entersB at h
  split at h
  · rename_i fn hf
    simp only [Bool.and_eq_true, Bool.not_eq_true'] at h
    obtain ⟨c, hc⟩ := Option.isSome_iff_exists.1 h.2
    exact ⟨fn, c, hf, h.1, hc⟩
  · cases h

theorem gam_ok {T : Tab} (hm : P.follows .mixedOrders = true) (ht : tabOkay P T = true) (hg : ∀ c f s, T.given c f = some s → Enters P f ∧ match s with | .p F => PSound P f F | .g G => GSound P f G) :
    ∀ (k : Nat) (c : FuncId), GamOk P (gam P T k c) := by
  intro k
  induction k with
  | zero =>
    intro c f s h
    simp only [gam] at h
    split at h
    · rename_i s' hs; cases h; exact hg c f _ hs
    · split at h
      · rename_i hf
        have := List.all_eq_true.1 ht f (by simpa using hf)
        simp only [Bool.and_eq_true] at this
        split at h <;> cases h
        · refine ⟨enters_of_B this.1, ⟨?_, ?_, ?_, ?_⟩⟩
          · intro d args blk v blk' e; cases e
          · intro d args blk e B _ _ _ _; rfl
          · intro d args blk v blk' e; cases e
          · intro d args blk v blk' e; cases e
        · exact ⟨enters_of_B this.1, fun I w ds xs r e => by cases e⟩
      · cases h
  | succ k ih =>
    intro c f s h
    simp only [gam] at h
    split at h
    · rename_i s' hs; cases h; exact hg c f _ hs
    · split at h
      · rename_i hf
        have := List.all_eq_true.1 ht f (by simpa using hf)
        simp only [Bool.and_eq_true] at this
        have hd : drawsOk P (gam P T k f) f = true := by rw [drawsOk_congr (fun x => gam_isG f k x)]; exact this.2
        split at h <;> cases h
        · exact ⟨enters_of_B this.1, runG_sound hm (ih f) hd _⟩
        · exact ⟨enters_of_B this.1, runP_sound hm (ih f) hd _⟩
      · cases h
end
end Go.Abs

/- Regions that draw their order, whose unordered pairs change places for reasons that hang on the state. -/
namespace Go.Abs
open Go.RowKit

section
variable {C : Ctx} {P : Program} {Γ : Gam} {ops : Array Oper}

/-- The two operations change places, where the slots T hold what they hold at the end. -/
def Swaps (C : Ctx) (Γ : Gam) (ops : Array Oper) (q o : Oper) (st' : St) (T : List Nat) : Prop :=
  ∀ s s1 s2 : St, Live C s → (∀ t ∈ T, s.env t = st'.env t) → stepG C.P Γ C.n (dsOf ops) q s = some s1 → stepG C.P Γ C.n (dsOf ops) o s1 = some s2 →
    ∃ s1', stepG C.P Γ C.n (dsOf ops) o s = some s1' ∧ stepG C.P Γ C.n (dsOf ops) q s1' = some s2

/-- All unordered pairs change places. -/
def Apart (C : Ctx) (Γ : Gam) (ops : Array Oper) (st' : St) : Prop :=
  ∀ (i : Nat) (o : Oper) (x : Nat) (q : Oper), ops[i]? = some o → ops[x]? = some q → x < i → ((ancTab ops.toList []).getD i 0).testBit x = false →
    ∃ T : List Nat, Swaps C Γ ops q o st' T ∧ ∀ t ∈ T, ∀ k p, ops[k]? = some p → p.dst = some t → ((ancTab ops.toList []).getD x 0).testBit k = true ∨ ((ancTab ops.toList []).getD i 0).testBit k = true

theorem front_apart (hΓ : GamOk C.P Γ) {i : Nat} {o : Oper} (hi : ops[i]? = some o) {B : List Nat} {st' : St} : ∀ (A : List Nat) (s : St), Live C s →
    (∀ A1 x A2, A = A1 ++ x :: A2 → ∃ q, ops[x]? = some q ∧ ∃ T : List Nat, Swaps C Γ ops q o st' T ∧ ∀ t ∈ T, ∀ y ∈ x :: A2 ++ i :: B, ∀ p, ops[y]? = some p → p.dst ≠ some t) →
    runL C.P Γ C.n ops (A ++ i :: B) s = some st' → ∃ s1, stepG C.P Γ C.n (dsOf ops) o s = some s1 ∧ runL C.P Γ C.n ops (A ++ B) s1 = some st'
  | [], s, _, _, h => by
    simp only [List.nil_append, runL, hi, Option.bind_eq_some_iff] at h ⊢
    exact h
  | a :: A, s, hl, hf, h => by
    have h0 := h
    obtain ⟨q, hq, T, hT, hno⟩ := hf [] a A rfl
    simp only [List.cons_append, runL, hq, Option.bind_eq_some_iff] at h
    obtain ⟨s1, h1, h2⟩ := h
    obtain ⟨s2, h3, h4⟩ := front_apart hΓ hi A s1 (hl.step hΓ hq h1) (fun A1 x A2 e => hf (a :: A1) x A2 (by rw [e]; rfl)) h2
    obtain ⟨s3, h5, h6⟩ := hT s s1 s2 hl (fun t ht => (runL_env _ s (hno t ht) h0).symm) h1 h3
    refine ⟨s3, h5, ?_⟩
    simp only [List.cons_append, runL, hq, Option.bind_eq_some_iff]
    exact ⟨s2, h6, h4⟩

theorem any_apart (hΓ : GamOk C.P Γ) (ht : tabOk ops (ancTab ops.toList []) = true) {Q : Exit → Act → World → Prop} {st' : St} (hsw : Apart C Γ ops st') (hQ : ∀ a' w', SRel C st' a' w' → Q .normal a' w') :
    ∀ (fuel : Nat) (listed : Array Bool) (a : Act) (w : World) (s : St), listed.size = ops.size → (restOf ops.size listed).length ≤ fuel →
      (∀ i o, ops[i]? = some o → listed.getD i false = true → ∀ p ∈ preds o, listed.getD p false = true) →
      SRel C s a w → runL C.P Γ C.n ops (restOf ops.size listed) s = some st' → wpAny C.P .any ops Q fuel listed a w := by
  -- no operation is ready: none is left
  have done : ∀ (listed : Array Bool), listed.size = ops.size → Region.ready .any ops listed = [] → restOf ops.size listed = [] := by
    intro listed hsz hr
    rcases Classical.em (restOf ops.size listed = []) with h | h
    · exact h
    · exfalso
      -- the least one
      have hex : ∃ i, i < ops.size ∧ listed.getD i true = false := by
        obtain ⟨x, hx⟩ := List.exists_mem_of_ne_nil _ h
        simp only [restOf, List.mem_filter, List.mem_range, Bool.not_eq_true'] at hx
        exact ⟨x, hx⟩
      have hmin : ∃ i, (i < ops.size ∧ listed.getD i true = false) ∧ ∀ j, j < i → ¬ (j < ops.size ∧ listed.getD j true = false) := by
        obtain ⟨i, hi⟩ := hex
        induction i using Nat.strongRecOn with
        | _ i ih =>
          rcases Classical.em (∃ j, j < i ∧ (j < ops.size ∧ listed.getD j true = false)) with ⟨j, hj, hj2⟩ | hn
          · exact ih j hj hj2
          · exact ⟨i, hi, fun j hj hj2 => hn ⟨j, hj, hj2⟩⟩
      obtain ⟨i, ⟨hi1, hi2⟩, hi3⟩ := hmin
      have hmem : i ∈ Region.ready .any ops listed := by
        unfold Region.ready
        simp only [List.mem_filter, List.mem_range, hi1, true_and, hi2, Bool.not_false]
        rw [Array.getElem?_eq_getElem hi1]
        simp only [Option.map_some, Option.getD_some, Bool.true_and]
        rw [Array.all_eq_true']
        intro e he
        rw [Bool.or_eq_true, Bool.not_eq_true']
        by_cases hb : Region.binds .any e = true
        · right
          have h1 := zipIdx_all ht (i := i) (a := ops[i]) (by rw [Array.getElem?_toList]; exact Array.getElem?_eq_getElem hi1)
          simp only [Bool.and_eq_true, List.all_eq_true, decide_eq_true_eq] at h1
          have hlt := h1.1 e.on (by unfold preds; rw [List.mem_filterMap]; exact ⟨e, by simpa using he, by simp [hb]⟩)
          have := hi3 e.on hlt
          have hlt2 : e.on < ops.size := by omega
          have h4 : listed.getD e.on true = true := by
            cases hx : listed.getD e.on true with
            | true => rfl
            | false => exact absurd ⟨hlt2, hx⟩ this
          rw [← hsz] at hlt2
          simp [hlt2] at h4 ⊢; exact h4
        · left; simpa using hb
      rw [hr] at hmem; cases hmem
  intro fuel
  induction fuel with
  | zero =>
    intro listed a w s hsz hlen hcl hs hrun
    have hnil : restOf ops.size listed = [] := List.length_eq_zero_iff.1 (by omega)
    refine ⟨?_, ?_⟩
    · rcases Classical.em (Region.ready .any ops listed = []) with h | h
      · exact h
      · exfalso
        obtain ⟨x, hx⟩ := List.exists_mem_of_ne_nil _ h
        unfold Region.ready at hx
        simp only [List.mem_filter, List.mem_range, Bool.and_eq_true] at hx
        have : x ∈ restOf ops.size listed := by unfold restOf; simp only [List.mem_filter, List.mem_range]; exact ⟨hx.1, hx.2.1⟩
        rw [hnil] at this; cases this
    · rw [hnil] at hrun
      simp only [runL, Option.some.injEq] at hrun
      subst hrun; exact hQ _ _ hs
  | succ fuel ih =>
    intro listed a w s hsz hlen hcl hs hrun
    refine ⟨fun hr => ?_, fun i hi => ?_⟩
    · rw [done listed hsz hr] at hrun
      simp only [runL, Option.some.injEq] at hrun
      subst hrun; exact hQ _ _ hs
    · unfold Region.ready at hi
      simp only [List.mem_filter, List.mem_range, Bool.and_eq_true, Bool.not_eq_true'] at hi
      obtain ⟨hin, hun, hpreds⟩ := hi
      obtain ⟨o, ho⟩ : ∃ o, ops[i]? = some o := ⟨ops[i], Array.getElem?_eq_getElem hin⟩
      rw [ho] at hpreds
      simp only [Option.map_some, Option.getD_some, Array.all_eq_true', Bool.or_eq_true, Bool.not_eq_true'] at hpreds
      have hp : ∀ p ∈ preds o, listed.getD p false = true := by
        intro p hpm
        unfold preds at hpm
        rw [List.mem_filterMap] at hpm
        obtain ⟨e, he, hpe⟩ := hpm
        split at hpe
        · rename_i hb; cases hpe
          rcases hpreds e (by simpa using he) with h | h
          · rw [hb] at h; cases h
          · exact h
        · cases hpe
      have hanc := tab_closed ht (L := fun k => listed.getD k false = true) hcl ops.size i o (by omega) ho hp
      -- where it stands among what is left
      have hmem : i ∈ restOf ops.size listed := by unfold restOf; simp only [List.mem_filter, List.mem_range]; exact ⟨hin, by simpa using hun⟩
      obtain ⟨A, B, hAB⟩ := List.append_of_mem hmem
      have hpw : (restOf ops.size listed).Pairwise (· < ·) := List.Pairwise.filter _ List.pairwise_lt_range
      rw [hAB] at hpw hrun
      rw [List.pairwise_append] at hpw
      obtain ⟨hpA, hpB, hpAB⟩ := hpw
      rw [List.pairwise_cons] at hpB
      have hfree : ∀ (A1 : List Nat) (x : Nat) (A2 : List Nat), A = A1 ++ x :: A2 → ∃ q, ops[x]? = some q ∧ ∃ T : List Nat, Swaps C Γ ops q o st' T ∧ ∀ t ∈ T, ∀ y ∈ x :: A2 ++ i :: B, ∀ p, ops[y]? = some p → p.dst ≠ some t := by
        intro A1 x A2 hA
        have hx : x ∈ A := by rw [hA]; simp
        have hxlt : x < i := hpAB x hx i (by simp)
        have hxr : x ∈ restOf ops.size listed := by rw [hAB]; simp [hx]
        have hxr0 := hxr
        unfold restOf at hxr
        simp only [List.mem_filter, List.mem_range, Bool.not_eq_true'] at hxr
        refine ⟨ops[x], Array.getElem?_eq_getElem hxr.1, ?_⟩
        have unl : ∀ y, y ∈ restOf ops.size listed → listed.getD y false ≠ true := by
          intro y hy
          unfold restOf at hy
          simp only [List.mem_filter, List.mem_range, Bool.not_eq_true'] at hy
          have hys : y < listed.size := by omega
          have h4 := hy.2
          simp [hys] at h4 ⊢
          exact h4
        have hbit : ((ancTab ops.toList []).getD i 0).testBit x = false := by
          cases e : ((ancTab ops.toList []).getD i 0).testBit x with
          | false => rfl
          | true => exact (unl x hxr0 (hanc x e)).elim
        obtain ⟨T, hT, hw⟩ := hsw i o x ops[x] ho (Array.getElem?_eq_getElem hxr.1) hxlt hbit
        refine ⟨T, hT, fun t htT y hy p hyp hpt => ?_⟩
        have hyr : y ∈ restOf ops.size listed := by
          rw [hAB, hA]
          simp only [List.cons_append, List.append_assoc, List.mem_append, List.mem_cons] at hy ⊢
          rcases hy with hy | hy | hy | hy
          · exact .inr (.inl hy)
          · exact .inr (.inr (.inl hy))
          · exact .inr (.inr (.inr (.inl hy)))
          · exact .inr (.inr (.inr (.inr hy)))
        rcases hw t htT y p hyp hpt with h4 | h4
        · have hclosed := tab_closed ht (L := fun k => k < x) (fun k q hk hkx p hp => by
            have h1 := zipIdx_all ht (i := k) (a := q) (by rw [Array.getElem?_toList]; exact hk)
            simp only [Bool.and_eq_true, List.all_eq_true, decide_eq_true_eq] at h1
            have := h1.1 p hp; omega) ops.size x ops[x] (by omega) (Array.getElem?_eq_getElem hxr.1) (fun p hp => by
            have h1 := zipIdx_all ht (i := x) (a := ops[x]) (by rw [Array.getElem?_toList]; exact Array.getElem?_eq_getElem hxr.1)
            simp only [Bool.and_eq_true, List.all_eq_true, decide_eq_true_eq] at h1
            exact h1.1 p hp) y h4
          rw [hA, List.pairwise_append] at hpA
          have hx2 := hpA.2.1
          rw [List.pairwise_cons] at hx2
          simp only [List.cons_append, List.mem_append, List.mem_cons] at hy
          rcases hy with hy | hy | hy | hy
          · omega
          · have := hx2.1 y hy; omega
          · omega
          · have := hpB.1 y hy; omega
        · exact unl y hyr (hanc y h4)
      obtain ⟨s1, h1, h2⟩ := front_apart hΓ ho A s ⟨a, w, hs⟩ hfree hrun
      refine stepG_wp hΓ ho h1 hs fun a' w' hs' => ?_
      have hrest : restOf ops.size (listed.setIfInBounds i true) = A ++ B := by
        have e1 : restOf ops.size (listed.setIfInBounds i true) = (restOf ops.size listed).filter fun x => decide (x ≠ i) := by
          unfold restOf
          rw [List.filter_filter]
          apply List.filter_congr
          intro x hx
          simp only [List.mem_range] at hx
          have hxs : x < listed.size := by omega
          by_cases hxi : x = i
          · subst hxi; simp [hxs]
          · have : ¬ i = x := fun h => hxi h.symm
            simp [hxs, hxi, Array.getElem_setIfInBounds, this]
        rw [e1, hAB, List.filter_append, List.filter_cons]
        simp only [ne_eq, not_true_eq_false, decide_false, Bool.false_eq_true, if_false]
        rw [List.filter_eq_self.2, List.filter_eq_self.2]
        · intro x hx; simp only [decide_eq_true_eq]; have := hpB.1 x hx; omega
        · intro x hx; simp only [decide_eq_true_eq]; have := hpAB x hx i (by simp); omega
      refine ih (listed.setIfInBounds i true) a' w' s1 (by simpa using hsz) ?_ ?_ hs' (by rw [hrest]; exact h2)
      · rw [hrest]; rw [hAB] at hlen; simp at hlen ⊢; omega
      · intro j q hj hlj p hpm
        have mono : ∀ k, listed.getD k false = true → (listed.setIfInBounds i true).getD k false = true := by
          intro k hk
          by_cases hks : k < listed.size
          · by_cases hki : i = k
            · subst hki; simp [hks]
            · simp [hks, Array.getElem_setIfInBounds, hki] at hk ⊢; exact hk
          · simp [hks] at hk
        by_cases hji : j = i
        · subst hji; rw [ho] at hj; cases hj; exact mono p (hp p hpm)
        · refine mono p (hcl j q hj ?_ p hpm)
          have hjs : j < listed.size := by have := (Array.getElem?_eq_some_iff.1 hj).1; omega
          have : ¬ i = j := fun h => hji h.symm
          simp [hjs, Array.getElem_setIfInBounds, this] at hlj ⊢; exact hlj

theorem region_apart (hm : C.P.follows .mixedOrders = true) (hΓ : GamOk C.P Γ) (ht : tabOk ops (ancTab ops.toList []) = true) {id : Nat} {st st' : St} (hs : evalOps C.P Γ C.n (dsOf ops) ops.toList st = some st')
    (hsw : Apart C Γ ops st') {a : Act} {w : World} (h : SRel C st a w)
    {Q : Exit → Act → World → Prop} (hQ : ∀ a' w', SRel C st' a' w' → Q .normal a' w') : (Code.region id ops true).wp C.P Q a w := by
  refine wp_region_any hm ?_
  have hrest : restOf ops.size (Array.replicate ops.size false) = List.range ops.size := by
    unfold restOf
    rw [List.filter_eq_self]
    intro x hx
    simp only [List.mem_range] at hx
    simp [hx]
  obtain ⟨I, ρ, hc⟩ := h
  refine any_apart hΓ ht hsw hQ ops.size _ a _ st (by simp) (by rw [hrest]; simp) ?_ ⟨I, ρ, hc.drawn _⟩ (by rw [hrest, ← evalOps_all]; exact hs)
  intro i o _ hl
  simp at hl
  by_cases h : i < ops.size
  · simp [h] at hl
  · simp [h] at hl
end
end Go.Abs

/- A load of a variable beside a call that does not name it. -/
namespace Go.Abs
open Go.RowKit

/-- What the function writes: what its arguments name, and a new block. -/
def Direct (G : Nat → List AV → Blk → Option (AV × Blk)) : Prop :=
  ∀ (d : Nat) (args : List AV) (blk : Blk) (v : AV) (blk' : Blk), G d args blk = some (v, blk') → ∀ r, r ∉ AV.namess args → (∀ i, i < 4 → r ≠ .loc d i) → blk' r = blk r
def DirectAll (Γ : Gam) : Prop := ∀ f G, Γ f = some (.g G) → Direct G

section
variable {C : Ctx} {P : Program} {Γ : Gam} {ops : Array Oper}

def callArgs (Γ : Gam) (o : Oper) : Option (List Operand) := match o.op with
  | .call { callee := .value (.func f), args, .. } => match isG (Γ f) with
    | true => some args.toList
    | false => none
  | _ => none
/-- The slot that bears the address, and the arguments of the call. -/
def callSlot (Γ : Gam) (a b : Oper) : Option (Nat × List Operand) := match loadSlot a, callArgs Γ b with
  | some t, some as => some (t, as)
  | _, _ => match loadSlot b, callArgs Γ a with
    | some t, some as => some (t, as)
    | _, _ => none

theorem effG_call (hD : DirectAll Γ) {n : Nat} {ds : List (Option Tmp)} {o : Oper} {env : Nat → AV} {blk blk' : Blk} {v : AV} {as : List Operand} (hc : callArgs Γ o = some as) (h : effG P Γ n ds o env blk = some (v, blk')) {r : Ref}
    (hr : r ∉ AV.namess (as.map (opnd env))) (hb : dom blk r) : blk' r = blk r := by
  have hA : ∀ {v blk'}, effA P Γ n o env blk = some (v, blk') → blk' r = blk r := by
    intro v blk' h
    unfold callArgs at hc
    split at hc
    case h_2 => cases hc
    rename_i f args argTypes ho
    split at hc
    case h_2 => cases hc
    rename_i hg
    cases hc
    unfold effA at h
    split at h
    case isFalse => cases h
    rw [ho] at h
    cases hG : Γ f with
    | none => rw [hG] at hg; cases hg
    | some s =>
      cases s with
      | p F => rw [hG] at hg; cases hg
      | g G =>
        have hcl : cls P Γ (.call { callee := .value (.func f), args := args, argTypes := argTypes }) = .W := by simp [cls, hG]
        rw [hcl] at h
        simp only [semW, hG] at h
        split at h
        case isFalse => cases h
        rename_i hf
        refine hD f G hG _ _ _ _ _ h r hr ?_
        intro i hi e
        subst e
        unfold freshFrom at hf
        simp only [Bool.and_eq_true, Option.isNone_iff_eq_none] at hf
        unfold dom at hb
        match i, hi with
        | 0, _ => rw [hf.1.1.1] at hb; cases hb
        | 1, _ => rw [hf.1.1.2] at hb; cases hb
        | 2, _ => rw [hf.1.2] at hb; cases hb
        | 3, _ => rw [hf.2] at hb; cases hb
  unfold effG at h
  split at h
  · exact hA h
  · simp only [Option.bind_eq_some_iff] at h
    obtain ⟨t, _, b, _, h⟩ := h
    split at h
    · exact hA h
    · split at h
      · cases h; rfl
      · cases h

theorem swap_call (hD : DirectAll Γ) {a b : Oper} (hap : a.apart ops b = true) {t : Nat} {as : List Operand} (hs : callSlot Γ a b = some (t, as)) {s s1 s2 : St} (hl : Live C s) {r : Ref} {f : Nat} (hp : s.env t = .ptr r f) (hr : r ∉ AV.namess (as.map (opnd s.env)))
    (h1 : stepG C.P Γ C.n (dsOf ops) a s = some s1) (h2 : stepG C.P Γ C.n (dsOf ops) b s1 = some s2) :
    ∃ s1', stepG C.P Γ C.n (dsOf ops) b s = some s1' ∧ stepG C.P Γ C.n (dsOf ops) a s1' = some s2 := by
  obtain ⟨p1, p2, p3⟩ := Oper.apart_spec hap
  obtain ⟨henv, _⟩ := hl.ok
  obtain ⟨env, blk⟩ := s
  simp only at hp henv hr
  have hdom : dom blk r := by
    have := henv t
    rw [hp] at this
    simpa only [AV.ok] using this
  rw [stepG_eff] at h1
  simp only [Option.map_eq_some_iff] at h1
  obtain ⟨⟨va, ba⟩, ha, rfl⟩ := h1
  rw [stepG_eff] at h2
  simp only [Option.map_eq_some_iff] at h2
  obtain ⟨⟨vb, bb⟩, hb, rfl⟩ := h2
  simp only [put_eq] at hb ⊢
  have ce : ∀ bl, effG C.P Γ C.n (dsOf ops) b (putE env a.dst va) bl = effG C.P Γ C.n (dsOf ops) b env bl := fun bl =>
    effG_congr fun t ht => putE_look fun k => p1 t k ht
  have cf : ∀ bl, effG C.P Γ C.n (dsOf ops) a (putE env b.dst vb) bl = effG C.P Γ C.n (dsOf ops) a env bl := fun bl =>
    effG_congr fun t ht => putE_look fun k => p3 t k ht
  rw [ce] at hb
  have fin : ∀ {b1 : Blk}, effG C.P Γ C.n (dsOf ops) b env blk = some (vb, b1) → effG C.P Γ C.n (dsOf ops) a env b1 = some (va, bb) →
      ∃ s1', stepG C.P Γ C.n (dsOf ops) b ⟨env, blk⟩ = some s1' ∧ stepG C.P Γ C.n (dsOf ops) a s1' = some ⟨putE (putE env a.dst va) b.dst vb, bb⟩ := by
    intro b1 e1 e2
    refine ⟨⟨putE env b.dst vb, b1⟩, ?_, ?_⟩
    · rw [stepG_eff, e1]; simp only [Option.map_some, put_eq]
    · rw [stepG_eff]; simp only [cf, e2, Option.map_some, put_eq]; rw [putE_comm env a.dst b.dst va vb p2]
  unfold callSlot at hs
  split at hs
  · rename_i t' as' hld hca
    cases hs
    obtain ⟨rfl, _⟩ := effG_load hld hp ha (blk2 := blk) (fun _ _ => rfl)
    obtain ⟨_, k⟩ := effG_load hld hp ha (blk2 := bb) (fun _ _ => effG_call hD hca hb hr hdom)
    exact fin hb k
  · split at hs
    · rename_i t' as' hld hca
      cases hs
      obtain ⟨rfl, k⟩ := effG_load hld hp hb (blk2 := blk) (fun _ _ => (effG_call hD hca ha hr hdom).symm)
      exact fin k ha
    · cases hs

def tmpOfs : List Operand → List Nat
  | [] => []
  | .tmp t :: l => t :: tmpOfs l
  | _ :: l => tmpOfs l
theorem opnd_agree {env env' : Nat → AV} : ∀ {l : List Operand}, (∀ t ∈ tmpOfs l, env t = env' t) → l.map (opnd env) = l.map (opnd env')
  | [], _ => rfl
  | x :: l, h => by
    have hl : l.map (opnd env) = l.map (opnd env') := opnd_agree fun t ht => h t (by cases x <;> simp only [tmpOfs] <;> first | exact ht | exact List.mem_cons_of_mem _ ht)
    simp only [List.map_cons, hl]
    congr 1
    cases x with
    | tmp t => exact congrArg nrm (h t (by simp [tmpOfs]))
    | _ => rfl

def memN (t : Nat) : List Nat → Bool
  | [] => false
  | x :: l => Nat.beq t x || memN t l
theorem memN_of {t : Nat} : ∀ {l : List Nat}, t ∈ l → memN t l = true
  | x :: l, h => by
    simp only [memN, Bool.or_eq_true]
    rcases List.mem_cons.1 h with rfl | h
    · left; exact Nat.beq_refl _
    · right; exact memN_of h

def writersIn (ops : Array Oper) (A : List Nat) (T : List Nat) (i j : Nat) : Bool :=
  ops.toList.zipIdx.all fun (o, k) => match o.dst with
    | some t => !(memN t T) || (A.getD i 0).testBit k || (A.getD j 0).testBit k
    | none => true
def pairD (Γ : Gam) (ops : Array Oper) (A : List Nat) (a b : Oper) (i j : Nat) : Bool := a.apart ops b && match softSlot a b with
  | some t => writersIn ops A [t] i j
  | none => match callSlot Γ a b with
    | some (t, as) => writersIn ops A (t :: tmpOfs as) i j
    | none => false
def regionD (P : Program) (Γ : Gam) (ops : Array Oper) : Bool :=
  let A := ancTab ops.toList []
  tabOk ops A && (ops.toList.zipIdx.all fun (b, j) => ops.toList.zipIdx.all fun (a, i) => decide (j ≤ i) || (A.getD j 0).testBit i || freeOf P Γ ops a b || pairD Γ ops A a b i j) && Region.noSelect ops
def dynOf (Γ : Gam) (a b : Oper) : Option (Nat × List Operand) := match softSlot a b with
  | some t => some (t, [])
  | none => callSlot Γ a b
def dynT (P : Program) (Γ : Gam) (ops : Array Oper) : List (Nat × List Operand) :=
  let A := ancTab ops.toList []
  ops.toList.zipIdx.flatMap fun (b, j) => ops.toList.zipIdx.filterMap fun (a, i) => if decide (j ≤ i) || (A.getD j 0).testBit i || freeOf P Γ ops a b then none else dynOf Γ a b
def dynOk1 (env : Nat → AV) (t : Nat) (as : List Operand) : Bool := match env t with
  | .ptr r _ => !(decide (r ∈ AV.namess (as.map (opnd env))))
  | _ => false
def dynOk (env : Nat → AV) (l : List (Nat × List Operand)) : Bool := l.all fun q => dynOk1 env q.1 q.2

theorem writersIn_spec {A T : List Nat} {i j : Nat} (h : writersIn ops A T i j = true) : ∀ t ∈ T, ∀ k p, ops[k]? = some p → p.dst = some t → (A.getD i 0).testBit k = true ∨ (A.getD j 0).testBit k = true := by
  intro t ht k p hk hp
  have h1 := zipIdx_all h (i := k) (a := p) (by rw [Array.getElem?_toList]; exact hk)
  simp only [hp, memN_of ht, Bool.not_true, Bool.false_or, Bool.or_eq_true] at h1
  exact h1

theorem apart_of (hΓ : GamOk C.P Γ) (hD : DirectAll Γ) (hok : regionD C.P Γ ops = true) {st' : St} (hdyn : dynOk st'.env (dynT C.P Γ ops) = true) : Apart C Γ ops st' := by
  intro i o x q ho hq hxi hbit
  simp only [regionD, Bool.and_eq_true] at hok
  obtain ⟨⟨_, hpr⟩, _⟩ := hok
  have h1 := zipIdx_all hpr (i := i) (a := o) (by rw [Array.getElem?_toList]; exact ho)
  have h2 := zipIdx_all h1 (i := x) (a := q) (by rw [Array.getElem?_toList]; exact hq)
  simp only [Bool.or_eq_true, decide_eq_true_eq] at h2
  by_cases hfr : freeOf C.P Γ ops q o = true
  · exact ⟨[], fun s s1 s2 hl _ k1 k2 => swap hΓ hfr hl k1 k2, by simp⟩
  have h3 : pairD Γ ops (ancTab ops.toList []) q o x i = true := by
    rcases h2 with ((h2 | h2) | h2) | h2
    · omega
    · rw [hbit] at h2; cases h2
    · exact (hfr h2).elim
    · exact h2
  have hmem : ∀ y, dynOf Γ q o = some y → dynOk1 st'.env y.1 y.2 = true := by
    intro y hy
    refine List.all_eq_true.1 hdyn y ?_
    unfold dynT
    rw [List.mem_flatMap]
    refine ⟨(o, i), zipIdx_mem ho, ?_⟩
    rw [List.mem_filterMap]
    refine ⟨(q, x), zipIdx_mem hq, ?_⟩
    simp only
    rw [if_neg (by simp only [Bool.or_eq_true, decide_eq_true_eq, not_or]; exact ⟨⟨by omega, by rw [hbit]; simp⟩, hfr⟩)]
    exact hy
  unfold pairD at h3
  simp only [Bool.and_eq_true] at h3
  obtain ⟨hap, h3⟩ := h3
  split at h3
  · rename_i t hst
    have hy := hmem (t, []) (by unfold dynOf; rw [hst])
    simp only [dynOk1] at hy
    split at hy
    case h_2 => cases hy
    rename_i r f hp
    refine ⟨[t], fun s s1 s2 hl hT k1 k2 => swap_soft hap hst ⟨r, f, by rw [hT t (by simp)]; exact hp⟩ k1 k2, writersIn_spec h3⟩
  · rename_i hst
    split at h3
    case h_2 => cases h3
    rename_i t as hcs
    have hy := hmem (t, as) (by unfold dynOf; rw [hst]; exact hcs)
    simp only [dynOk1] at hy
    split at hy
    case h_2 => cases hy
    rename_i r f hp
    simp only [Bool.not_eq_true', decide_eq_false_iff_not] at hy
    refine ⟨t :: tmpOfs as, fun s s1 s2 hl hT k1 k2 => ?_, writersIn_spec h3⟩
    refine swap_call hD hap hcs hl (by rw [hT t (by simp)]; exact hp) ?_ k1 k2
    rw [opnd_agree fun u hu => hT u (List.mem_cons_of_mem _ hu)]
    exact hy

theorem region_D (hm : C.P.follows .mixedOrders = true) (hΓ : GamOk C.P Γ) (hD : DirectAll Γ) (hok : regionD C.P Γ ops = true) {id : Nat} {st st' : St} (hs : evalOps C.P Γ C.n (dsOf ops) ops.toList st = some st')
    (hdyn : dynOk st'.env (dynT C.P Γ ops) = true) {a : Act} {w : World} (h : SRel C st a w)
    {Q : Exit → Act → World → Prop} (hQ : ∀ a' w', SRel C st' a' w' → Q .normal a' w') : (Code.region id ops true).wp C.P Q a w :=
  region_apart hm hΓ (by simp only [regionD, Bool.and_eq_true] at hok; exact hok.1.1) hs (apart_of hΓ hD hok hdyn) h hQ

/-- Drawn regions whose order makes no difference. -/
def drawOkD (P : Program) (Γ : Gam) : Code → Bool
  | .region _ ops draw => !draw || regionD P Γ ops
  | .seq a b => drawOkD P Γ a && drawOkD P Γ b
  | .cond _ a b => drawOkD P Γ a && drawOkD P Γ b
  | .block _ c => drawOkD P Γ c
  | .loop c => drawOkD P Γ c
  | _ => true
theorem callSlot_congr {Γ Γ' : Gam} (h : ∀ f, isG (Γ f) = isG (Γ' f)) : callSlot Γ = callSlot Γ' := by
  have hc : callArgs Γ = callArgs Γ' := by
    funext o; unfold callArgs; split
    · rw [h]
    · rfl
  funext a b; unfold callSlot; rw [hc]
theorem drawOkD_congr {P : Program} {Γ Γ' : Gam} (h : ∀ f, isG (Γ f) = isG (Γ' f)) : ∀ c : Code, drawOkD P Γ c = drawOkD P Γ' c := by
  have hc : cls P Γ = cls P Γ' := funext fun o => cls_congr h o
  have hs := callSlot_congr h
  intro c
  induction c with
  | region id ops draw => simp only [drawOkD, regionD, pairD, freeOf, hc, hs]
  | seq a b iha ihb => simp only [drawOkD, iha, ihb]
  | cond x a b iha ihb => simp only [drawOkD, iha, ihb]
  | block id c ih => simp only [drawOkD, ih]
  | loop c ih => simp only [drawOkD, ih]
  | _ => rfl
theorem dynT_congr {P : Program} {Γ Γ' : Gam} (h : ∀ f, isG (Γ f) = isG (Γ' f)) (ops : Array Oper) : dynT P Γ ops = dynT P Γ' ops := by
  have hc : cls P Γ = cls P Γ' := funext fun o => cls_congr h o
  have hf : freeOf P Γ = freeOf P Γ' := by funext a b c; simp only [freeOf, hc]
  have hd : dynOf Γ = dynOf Γ' := by unfold dynOf; rw [callSlot_congr h]
  unfold dynT; rw [hf, hd]
end
end Go.Abs
