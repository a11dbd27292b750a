import Derived.Test.YtghdinkgfpfdoaaGreatLc
import Derived.Test.YtghdinkgfpfdoaaGreatShelf
/- slices.Clone, at any element type, as a contract. -/
namespace Go.Proofs
open Go.Shelf Go.RowKit Go.Lib
variable {P : Program} {ρ : Ren}

set_option maxHeartbeats 2000000 in
set_option maxRecDepth 100000 in
theorem clone_calls (L : SlLaysE0.n41 P ρ) (i0 : TypeInfo) (z : Value) (size bytes : Nat) (hi : P.info? (ρ.t 23) = some i0) (hz0 : i0.zero = some z) (hz1 : i0.size = size) (hz2 : i0.bytes = bytes) (hzs : z.cells.size = size) (hsz : 0 < size)
    (z23 : ∀ w, (Go.sizeOf (ρ.t 23)).run P w = .ok size w) (ad : Addr) (n c : Nat) (news : List Value) (w : World) (hl : news.length = n * size) (hn : n ≤ maxLen) (hbig : n * bytes ≤ 140737488355328)
    (hc : ∀ j u, news[j]? = some u → w.cell? (ad.add j) = some u) (h1 : ∀ u ∈ news, u.oneCell' = true) :
    Calls P (ρ.f 41) #[.slice (some ad) n c] w fun e w' => ∃ v', e = .returned v' ∧ w'.ownsRow w.heap.size (ρ.t 23) size v' n news ∧ v' ≠ .slice none 0 0 ∧ Below w.heap.size w w' := by
  have mixed := L.mixed; have t4 := L.t4; have a4 := L.a4; have z4 := L.z4; have v4 := L.v4; have t22 := L.t22; have a22 := L.a22; have z22 := L.z22; have v22 := L.v22
  have q22 : ∀ (w : World) (a : Option Addr) (n c n' c' : Nat), (binOp .eql (ρ.t 22) (.slice a n c) (.slice none n' c')).run P w = .ok (.bool a.isNone) w := fun w a n c n' c' => Lib.run_eql_slice_nil w _ _ a n c n' c' L.t22
  have u22 : ∀ w, Sem.run P (underlying (ρ.t 22)) w = .ok (TypeDesc.slice (ρ.t 23)) w := run_underlying t22
  have A : Aside (∀ j u, news[j]? = some u → w.cell? (ad.add j) = some u) := hc
  clear hc
  obtain ⟨_, _, FG⟩ := L.f41
  go_enter FG, SlBodyN.n41_ntmps ρ
  go_wp2_with (at_builtin; refine wpList_append_own _ rfl _ _ (ρ.t 22) rfl w.heap.size (ρ.t 23) i0 z size bytes t22 hi hz0 hz1 hz2 hzs hsz _ _ _ rfl (World.ownsRow_made w #[] 0 (Nat.le_refl _) (Nat.zero_le _) (by simp)) ad n c news rfl ?qc1 ?qc2 ?qc3 ?qc4 ?qc5 ?qc6 ?_)
  case qc1 => exact hl
  case qc2 =>
    intro j u hj
    exact Lib.cell?_alloc_some _ (A.out j u hj)
  case qc3 => exact h1
  case qc4 => rw [Nat.zero_add]; exact hn
  case qc5 => rw [Nat.zero_add]; exact hbig
  case qc6 => simp
  intro v' w1 hown hgrow hnil
  go_wp2
  go_ret
  refine ⟨v', rfl, by simpa using hown, ?_, ?_⟩
  · exact hnil
  · exact ((Below.refl _ w).alloc (Nat.le_refl _) _).grown hgrow (by simp) (by intro k hk; simp [Value.ownBlock] at hk; omega)
end Go.Proofs

namespace Go.Abs
open Go Go.Proofs Go.RowKit Go.Shelf

theorem VRel.of_owns {I : Nat → Prop} {w w' : World} {base : Nat} {e : TypeId} {size : Nat} {v : Value} {rows : List (List PD)} {vs : List Value} (hall : ∀ r ∈ rows, r.length = size) (hc : Cellish vs) (hv : VRels I w rows.flatten vs)
    (hI : ∀ b, I b → w'.heap[b]? = w.heap[b]?) (hown : w'.ownsRow base e size v rows.length vs) : VRel (fun b => I b ∨ (base ≤ b ∧ b < w'.heap.size)) w' (.sl rows) v := by
  simp only [VRel]
  rcases hown.2 with ⟨rfl, h0⟩ | ⟨g, cap, cur, rfl, hb, hg, hn, hm, hs, ht⟩
  · have : rows = [] := List.eq_nil_of_length_eq_zero h0
    subst this
    exact ⟨none, 0, rfl, Nat.le_refl _, Nat.zero_le _, .inl rfl⟩
  · refine ⟨some ⟨g, 0, none⟩, cap, rfl, hn, hm, .inr ⟨g, 0, size, rfl, .inr ⟨hb, (Array.getElem?_eq_some_iff.1 hg).1⟩, ?_⟩⟩
    refine VRows.mono (fun b h => .inl h) (fun b _ => rfl) g 0 size rfl _ ?_
    exact rows_new hg (by rw [← ht, List.take_append_drop]) hI hall hv hc

/-- The value is a slice of these rows. -/
def SrcV (I : Nat → Prop) (w : World) (rows : List (List PD)) (x : Value) : Prop := ∃ a cap, x = .slice a rows.length cap ∧ (rows = [] ∨ ∃ b off sz, a = some ⟨b, off, none⟩ ∧ VRows I w b off sz rows)

def rowsOk (size : Nat) (rows : List (List PD)) : Bool := decide (rows.length ≤ 2 ^ 32) && rows.all (fun r => r.length == size)

/-- The function gives a slice anew of the same rows. -/
def FreshRows (P : Program) (f : FuncId) (size : Nat) : Prop :=
  ∀ (I : Nat → Prop) (w : World) (x : Value) (rows : List (List PD)), rowsOk size rows = true → (∀ b, I b → b < w.heap.size) → SrcV I w rows x →
    Calls P f #[x] w fun e w' => ∃ v el vs, e = .returned v ∧ (∀ r ∈ rows, r.length = size) ∧ Cellish vs ∧ VRels I w rows.flatten vs ∧ w'.ownsRow w.heap.size el size v rows.length vs ∧ Below w.heap.size w w'

theorem clone_fresh {P : Program} {ρ : Ren} (L : SlLaysE0.n41 P ρ) (i0 : TypeInfo) (z : Value) (size bytes : Nat) (hi : P.info? (ρ.t 23) = some i0) (hz0 : i0.zero = some z) (hz1 : i0.size = size) (hz2 : i0.bytes = bytes) (hzs : z.cells.size = size) (hsz : 0 < size)
    (hby : bytes ≤ 2 ^ 12) (z23 : ∀ w, (Go.sizeOf (ρ.t 23)).run P w = .ok size w) : FreshRows P (ρ.f 41) size := by
  intro I w x rows hr hI hx
  unfold rowsOk at hr
  simp only [Bool.and_eq_true, decide_eq_true_eq] at hr
  obtain ⟨hlen, hall⟩ := hr
  have hall : ∀ r ∈ rows, r.length = size := by simpa using hall
  obtain ⟨a, cap, rfl, hrows⟩ := hx
  have hbig : rows.length * bytes ≤ 140737488355328 := Nat.le_trans (Nat.mul_le_mul hlen hby) (by decide)
  cases a with
  | none =>
    have h0 : rows = [] := by
      rcases hrows with h | ⟨b, off, sz, h1, h2⟩
      · exact h
      · cases h1
    subst h0
    refine (AnyE.slices_Clone_nil L 0 cap w).mono ?_
    rintro e w' ⟨rfl, rfl⟩
    exact ⟨_, 0, [], rfl, hall, by simp [Cellish], by simp [VRels], World.ownsRow_nil _ _ _ _, Below.refl _ _⟩
  | some ad =>
    obtain ⟨vs, hcel, hvs, hvl, hcells⟩ : ∃ vs, Cellish vs ∧ VRels I w rows.flatten vs ∧ vs.length = rows.length * size ∧ ∀ j u, vs[j]? = some u → w.cell? (ad.add j) = some u := by
      rcases hrows with h | ⟨b, off, sz, h1, h2⟩
      · subst h
        exact ⟨[], by simp [Cellish], by simp [VRels], by simp, by intro j u hj; simp at hj⟩
      · cases h1
        by_cases hr0 : rows = []
        · subst hr0
          exact ⟨[], by simp [Cellish], by simp [VRels], by simp, by intro j u hj; simp at hj⟩
        · have hsz' : sz = size := by
            cases rows with
            | nil => exact absurd rfl hr0
            | cons r rs => rw [← h2.lengths r (by simp)]; exact hall r (by simp)
          subst hsz'
          obtain ⟨vs, k1, k2, k3, k4⟩ := h2.values
          exact ⟨vs, k1, k2, k3, fun j u hj => by rw [addr_add]; exact k4 j u hj⟩
    refine (clone_calls L i0 z size bytes hi hz0 hz1 hz2 hzs hsz z23 ad rows.length cap vs w hvl (Nat.le_trans hlen (by decide)) hbig hcells (fun u hu => by have := hcel u hu; unfold cellish at this; unfold Value.oneCell'; split <;> simp_all)).mono ?_
    rintro e w' ⟨v', rfl, hown, hne, hbl⟩
    exact ⟨v', _, vs, rfl, hall, hcel, hvs, hown, hbl⟩

def fFresh (size : Nat) : List PD → Option PD
  | [.sl rows] => match rowsOk size rows with
    | true => some (.sl rows)
    | false => none
  | _ => none
theorem FreshRows.psound {P : Program} {f : FuncId} {size : Nat} (h : FreshRows P f size) : PSound P f (fFresh size) := by
  intro I w ds xs r hr hI hx
  unfold fFresh at hr
  split at hr
  case h_2 => cases hr
  rename_i rows
  split at hr
  case h_2 => cases hr
  rename_i hok
  cases hr
  simp only [VRels, VRel] at hx
  obtain ⟨x, _, rfl, ⟨a, cap, rfl, _, _, hrows⟩, rfl⟩ := hx
  refine (h I w _ rows hok hI ⟨a, cap, rfl, hrows.imp id fun ⟨b, off, sz, k1, _, k2⟩ => ⟨b, off, sz, k1, k2⟩⟩).mono ?_
  rintro e w' ⟨v, el, vs, rfl, h1, h2, h3, h4, h5⟩
  exact ⟨v, rfl, h5, VRel.of_owns h1 h2 h3 (fun b hb => h5.block _ (hI b hb)) h4⟩

def argRows (blk : Blk) : AV → Option (List (List PD))
  | .pd (.sl rows) => some rows
  | .nil => some []
  | .sl r sz 0 len => match blk r with
    | some (.arr sz' rows) => match Nat.beq sz sz' && Nat.beq rows.length len with
      | true => some rows
      | false => none
    | _ => none
  | _ => none
theorem argRows_rel {I : Nat → Prop} {w : World} {ρ : Ref → Pl} {blk : Blk} (H : HRel I ρ w blk) {v : AV} {rows : List (List PD)} {x : Value} (h : argRows blk v = some rows) (k : ARel I w ρ v x) : SrcV I w rows x := by
  unfold argRows at h
  split at h
  · cases h
    simp only [ARel, VRel] at k
    obtain ⟨a, cap, rfl, _, _, hrows⟩ := k
    exact ⟨a, cap, rfl, hrows.imp id fun ⟨b, off, sz, k1, _, k2⟩ => ⟨b, off, sz, k1, k2⟩⟩
  · cases h
    simp only [ARel] at k
    exact ⟨none, 0, by simpa using k, .inl rfl⟩
  · rename_i r sz len
    split at h
    case h_2 => cases h
    rename_i sz' rows' hb
    split at h
    case h_2 => cases h
    rename_i hck
    cases h
    simp only [Bool.and_eq_true] at hck
    obtain ⟨e1, e2⟩ := hck
    have e1 := Nat.eq_of_beq_eq_true e1
    have e2 := Nat.eq_of_beq_eq_true e2
    subst e1 e2
    simp only [ARel] at k
    obtain ⟨a, cap, rfl, hlc, hno, hnil, hat⟩ := k
    refine ⟨a, cap, rfl, ?_⟩
    rcases H.rel r _ hb with ⟨q1, _⟩ | ⟨b, o, ct, c, el, fz, q1, q2, q3, q4, q5, q6⟩
    · exact .inl q1
    · obtain ⟨_, hct, _, hne, hcap⟩ := hat b o ct _ q1
      by_cases h0 : rows = []
      · exact .inl h0
      · have hlp : 0 < rows.length := List.length_pos_iff.2 h0
        refine .inr ⟨b, o, _, ?_, q5⟩
        rw [hcap (by omega)]; simp
  · cases h
theorem argRows_lone {blk : Blk} {v : AV} {e : Ref} {B : Option Block} (hv : v.ok (dom blk)) (he : blk e = none) : argRows (upd blk e B) v = argRows blk v := by
  unfold argRows
  split <;> try rfl
  rename_i r sz len
  have : r ≠ e := by
    rintro rfl
    simp only [AV.ok, dom] at hv
    rw [he] at hv; cases hv
  rw [upd_ne _ _ this]

/-- .. as a function that makes a block of its caller's. -/
def gFresh (size : Nat) (d : Nat) (args : List AV) (blk : Blk) : Option (AV × Blk) :=
  match args with
  | [a] => match argRows blk a with
    | none => none
    | some rows => match rowsOk size rows with
      | false => none
      | true => match blk (.loc d 0) with
        | some _ => none
        | none => some (.sl (.loc d 0) size 0 rows.length, upd blk (.loc d 0) (some (.arr size rows)))
  | _ => none

theorem gFresh_parts {size : Nat} {d : Nat} {args : List AV} {blk : Blk} {v : AV} {blk' : Blk} (h : gFresh size d args blk = some (v, blk')) :
    ∃ a rows, args = [a] ∧ argRows blk a = some rows ∧ rowsOk size rows = true ∧ blk (.loc d 0) = none ∧ v = .sl (.loc d 0) size 0 rows.length ∧ blk' = upd blk (.loc d 0) (some (.arr size rows)) := by
  unfold gFresh at h
  split at h
  case h_2 => cases h
  rename_i a
  split at h
  · cases h
  rename_i rows h1
  split at h
  · cases h
  rename_i h2
  split at h
  · cases h
  rename_i h3
  cases h
  exact ⟨a, rows, rfl, h1, h2, h3, rfl, rfl⟩

theorem FreshRows.gsound {P : Program} {f : FuncId} {size : Nat} (hF : FreshRows P f size) : GSound P f (gFresh size) := {
  calls := by
    intro d args blk v blk' hg hfr I ρ w xs h hargs hx
    obtain ⟨ar, rows, rfl, h1, h2, h3, rfl, rfl⟩ := gFresh_parts hg
    simp only [ARels] at hx
    obtain ⟨x0, _, rfl, hx, rfl⟩ := hx
    refine (hF I w x0 rows h2 h.imm (argRows_rel h h1 hx)).mono ?_
    rintro e w' ⟨x, el, vs, rfl, hall, hcel, hvs, hown, hbl⟩
    have hw : ∀ b, I b → w'.heap[b]? = w.heap[b]? := fun b hb => hbl.block _ (h.imm b hb)
    have hat : ∀ r B b o ct sz, blk r = some B → B.owned = true → ρ r = .at b o ct sz → b < w.heap.size ∧ ¬ I b := by
      intro r B b o ct sz hr hO hp
      have := h.rel r B hr
      cases B with
      | vars cs =>
        obtain ⟨b', ct', sz', c, el, fz, q1, q2, q3, _⟩ := this
        rw [hp] at q1; cases q1
        exact ⟨lt_of_cells q2, q3⟩
      | arr sz' rows' =>
        rcases this with ⟨_, q1⟩ | ⟨b', o', ct', c, el, fz, q1, q2, q3, _⟩
        · rw [hp] at q1; cases q1
        · rw [hp] at q1; cases q1
          exact ⟨lt_of_cells q2, q3⟩
      | _ => cases hO
    obtain ⟨pl, hpl, hB, hA⟩ : ∃ pl : Pl, (∀ b o ct sz, pl = .at b o ct sz → w.heap.size ≤ b) ∧ (∀ ρ' : Ref → Pl, ρ' (.loc d 0) = pl → BRel I w' ρ' (.loc d 0) (.arr size rows)) ∧
        (∀ ρ' : Ref → Pl, ρ' (.loc d 0) = pl → ARel I w' ρ' (.sl (.loc d 0) size 0 rows.length) x) := by
      rcases hown.2 with ⟨rfl, h0⟩ | ⟨g, cap, cur, rfl, hb, hg, hn, hm, hs, ht⟩
      · have h00 : rows = [] := List.eq_nil_of_length_eq_zero h0
        subst h00
        refine ⟨.nilp, fun _ _ _ _ e => (by cases e), fun ρ' e => .inl ⟨rfl, e⟩, fun ρ' e => ?_⟩
        simp only [ARel]
        refine ⟨none, 0, rfl, by simp, fun _ => by simp, fun _ => by simp, fun b o ct sz k => ?_⟩
        rw [e] at k; cases k
      · refine ⟨.at g 0 cap size, fun b o ct sz e => by cases e; exact hb, fun ρ' e => .inr ⟨g, 0, cap, cur, el, (0, 0), e, hg, fun k => by have := h.imm _ k; omega, unfrozen_new _, rows_new hg (by rw [← ht, List.take_append_drop]) hw hall hvs hcel, hn, hm, by omega⟩, fun ρ' e => ?_⟩
        simp only [ARel]
        refine ⟨some ⟨g, 0, none⟩, cap, rfl, hn, fun k => (by cases k), fun k => ?_, fun b o ct sz' k => ?_⟩
        · rw [e] at k; cases k
        · rw [e] at k; cases k
          exact ⟨rfl, by omega, hn, fun k => (by cases k), fun _ => by simp⟩
    have hq : ∀ r, dom blk r → r ≠ .loc d 0 := fun r hr e => by subst e; unfold dom at hr; rw [h3] at hr; cases hr
    have hlat : Later (dom blk) ρ (upd ρ (.loc d 0) pl) := fun r hr => .inl (upd_ne _ _ (hq r hr))
    have hdm : ∀ r, dom blk r → dom (upd blk (.loc d 0) (some (.arr size rows))) r := fun r hr => by unfold dom at *; rw [upd_ne _ _ (hq r hr)]; exact hr
    refine ⟨x, I, upd ρ (.loc d 0) pl, rfl, ⟨fun b hb => Nat.lt_of_lt_of_le (h.imm b hb) hbl.size, ?_, ?_, ?_⟩, hA _ (upd_same _ _ _), ?_, hdm, hlat, fun b hb => hb, hw, fun b hb => .inl hb,
      ⟨hbl.os, hbl.tape, hbl.output, hbl.size, fun b hb _ => hbl.block b hb⟩, ?_⟩
    · intro r B hr
      by_cases e : r = .loc d 0
      · subst e; rw [upd_same] at hr; cases hr; exact hB _ (upd_same _ _ _)
      · rw [upd_ne _ _ e] at hr
        refine BRel.mono (fun b hb => hb) hw hlat (upd_ne _ _ e) (h.ok r B hr) (fun b o ct sz hp hO => ?_) (h.rel r B hr)
        obtain ⟨q1, q2⟩ := hat r B b o ct sz hr hO hp
        exact ⟨hbl.block b q1, q2⟩
    · intro r r' B B' b o ct sz o' ct' sz' hr hO hr' hO' hp hp'
      by_cases e : r = .loc d 0
      · by_cases e' : r' = .loc d 0
        · exact e.trans e'.symm
        · subst e
          rw [upd_ne _ _ e'] at hr' hp'
          rw [upd_same] at hp
          have := hpl _ _ _ _ hp
          have := (hat r' B' _ _ _ _ hr' hO' hp').1
          omega
      · by_cases e' : r' = .loc d 0
        · subst e'
          rw [upd_ne _ _ e] at hr hp
          rw [upd_same] at hp'
          have := hpl _ _ _ _ hp'
          have := (hat r B _ _ _ _ hr hO hp).1
          omega
        · rw [upd_ne _ _ e] at hr hp; rw [upd_ne _ _ e'] at hr' hp'
          exact h.inj r r' B B' b o ct sz o' ct' sz' hr hO hr' hO' hp hp'
    · intro r B hr
      by_cases e : r = .loc d 0
      · subst e; rw [upd_same] at hr; cases hr; trivial
      · rw [upd_ne _ _ e] at hr
        have := h.ok r B hr
        cases B with
        | vars cs => exact AV.oks.mono hdm cs this
        | _ => trivial
    · simp only [AV.ok, dom, upd_same]; rfl
    · rintro b ⟨r, B, o, ct, sz, _, hr, hO, hp⟩
      by_cases e : r = .loc d 0
      · subst e; rw [upd_same] at hp; exact .inl (hpl _ _ _ _ hp)
      · rw [upd_ne _ _ e] at hr hp; exact .inr ⟨r, B, o, ct, sz, trivial, hr, hO, hp⟩
  lone := by
    intro d args blk e B he hdi hargs _
    have hne : Ref.loc d 0 ≠ e := fun k => hdi 0 k.symm
    unfold gFresh
    split <;> try rfl
    rename_i a
    simp only [AV.oks] at hargs
    rw [argRows_lone hargs.1 he]
    cases argRows blk a with
    | none => rfl
    | some rows =>
      simp only
      cases rowsOk size rows with
      | false => rfl
      | true =>
        simp only
        rw [upd_ne _ _ hne]
        cases blk (.loc d 0) with
        | some _ => rfl
        | none => simp only [Option.map_some]; rw [upd_comm _ _ _ hne.symm]
  news := by
    intro d args blk v blk' hg e he hdi
    obtain ⟨ar, rows, rfl, h1, h2, h3, rfl, rfl⟩ := gFresh_parts hg
    rw [upd_ne _ _ (hdi 0)]; exact he
  ok := by
    intro d args blk v blk' hg hargs hblk
    obtain ⟨ar, rows, rfl, h1, h2, h3, rfl, rfl⟩ := gFresh_parts hg
    have hdm : ∀ r, dom blk r → dom (upd blk (.loc d 0) (some (.arr size rows))) r := fun r hr => by
      unfold dom at *
      by_cases e : r = .loc d 0
      · subst e; rw [upd_same]; rfl
      · rw [upd_ne _ _ e]; exact hr
    refine ⟨by simp only [AV.ok, dom, upd_same]; rfl, hdm, fun r X hr => ?_⟩
    by_cases e : r = .loc d 0
    · subst e; rw [upd_same] at hr; cases hr; trivial
    · rw [upd_ne _ _ e] at hr
      have := hblk r X hr
      cases X with
      | vars cs => exact AV.oks.mono hdm cs this
      | _ => trivial }

def cloneOk (P : Program) (t size : Nat) : Bool := match ti P t with
  | some i => i.size == size && decide (0 < size) && i.zero.length == size && decide (i.bytes ≤ 4096)
  | none => false

theorem clone_rows {P : Program} {ρ : Ren} (L : SlLaysE0.n41 P ρ) {f t size : Nat} (hf : ρ.f 41 = f) (ht : ρ.t 23 = t) (h : cloneOk P t size = true) : FreshRows P f size := by
  subst hf ht
  unfold cloneOk at h
  split at h
  case h_2 => cases h
  rename_i i hi
  simp only [Bool.and_eq_true, beq_iff_eq, decide_eq_true_eq] at h
  obtain ⟨⟨⟨h1, h2⟩, h3⟩, h4⟩ := h
  have hi' := hi
  unfold ti at hi
  simp only [Option.bind_eq_some_iff, Option.map_eq_some_iff] at hi
  obtain ⟨i0, q1, d, q2, z, q3, rfl⟩ := hi
  exact clone_fresh L i0 z size i0.bytes q1 q3 h1 rfl (by simpa using h3) h2 h4 (fun w => by rw [← h1]; exact run_sizeOf hi' w)
end Go.Abs
