import Derived.RangeFuncBox
import Derived.RangeFuncNested
import Derived.RangeFuncLeaves
import Derived.RangeFuncCalls
import Derived.Shelf.Abstract
import Derived.WalkKit
import Derived.OwnWalkIn
import Derived.TacticsInMore
import Derived.LoopNIn
import Derived.LoopIn
import Derived.Maps.AppendAt
import Derived.Test.YtghdinkgfpfdoaaGreatProg
/- wire.groups's closure, over this seat's program: the bytes of a number, to whatever loop body keeps the number's box. -/
namespace Go.Proofs
open Go.RowKit Go.Shelf

attribute [local go_sem] Oper.semAt_some

/-- A byte of a number, with and without the mark that more come. -/
def Tryz.lowB (u : Int) : Int := u
def Tryz.moreB (u : Int) : Int := bits BinOp.or IntKind.u8 (u % 256) 128
def Tryz.rest7 (u : Int) : Int := u / 128
def Tryz.boxN (B : Nat) (W : World) : Nat := match W.cell? ⟨B, 0, none⟩ with
  | some (.int _ u) => u.toNat
  | _ => 0
/-- The bytes of a number. -/
def Tryz.vints : Nat → Int → List Int
  | 0, _ => []
  | k + 1, u => if u > 127 then Tryz.moreB u :: Tryz.vints k (Tryz.rest7 u) else [Tryz.lowB u]

theorem Tryz.rest7_lt {u : Int} {k : Nat} (h : u < 128 ^ (k + 1)) : Tryz.rest7 u < 128 ^ k := by
  unfold Tryz.rest7
  rw [Int.pow_succ] at h
  exact Int.ediv_lt_of_lt_mul (by decide) h

set_option maxRecDepth 100000 in
set_option maxHeartbeats 4000000 in
theorem Tryz.groups1_in (F : Fence) (n : Nat) (h7 : F.fn 348) (hro : F.round = none) (hn : 1 ≤ n) (l Bu : Nat) (J : List Int → World → Prop)
    (hJu : ∀ pre W v, J pre W → J pre (W.setCell ⟨Bu, 0, none⟩ v))
    (hY : ∀ pre x W, J pre W → pre.length < 10 → YieldAt F (n - 1) Tryz.prog l #[.int .u8 x] W fun e W' =>
      e = .returned (.bool true) ∧ J (pre ++ [x]) W' ∧ ∀ v, Boxed W Bu 339 v → Boxed W' Bu 339 v)
    (W : World) (u : Int) (hu0 : 0 ≤ u) (hu : u < 2 ^ 64) (hb : Boxed W Bu 339 (.int .u64 u)) (h0 : J [] W) :
    CallsIn F n Tryz.prog 348 #[.func (.yield l) #[] #[], .pointer (some ⟨Bu, 0, none⟩)] W fun e W' => (∃ v, e = .returned v) ∧ J (Tryz.vints 10 u) W' := by
  refine callsIn_of_wp Tryz.func348 rfl h7 ?_ hro
  simp only [Tryz.ntmps348, List.size_toArray, List.length_cons, List.length_nil, Nat.reduceAdd, Nat.reduceSub, Array.replicate_succ, Array.replicate_zero, List.push_toArray, List.append_toArray, List.nil_append, List.cons_append]
  gi_wp2
  gi_loopw [] (fun wr => ∃ (k : Nat) (v : Int) (pre : List Int), k + 1 + pre.length = 10 ∧ 0 ≤ v ∧ v < 128 ^ (k + 1) ∧ v < 2 ^ 64 ∧ Boxed wr Bu 339 (.int .u64 v) ∧ J pre wr ∧ pre ++ Tryz.vints (k + 1) v = Tryz.vints 10 u)
    (fun wr => Tryz.boxN Bu wr)
  case atStart =>
    have h10 : (128 : Int) ^ 10 = 1180591620717411303424 := by decide
    exact ⟨9, u, [], rfl, hu0, by rw [h10]; omega, hu, hb, h0, rfl⟩
  case round =>
    obtain ⟨k, v, pre, hk, hv0, hvk, hv64, hbox, hJ, hvs⟩ := hrel
    have hc := hbox.cell
    have hf := hbox.frozen
    by_cases hgt : v > 127
    · obtain ⟨fn, tmps, assign, body, hy, hR⟩ := hY pre (Tryz.moreB v) wr hJ (by omega)
      unfold Tryz.moreB at hy
      obtain ⟨j, rfl⟩ : ∃ j, k = j + 1 := by
        cases k with
        | zero => simp at hvk; omega
        | succ j => exact ⟨j, rfl⟩
      gi_wp2
      refine hR.mono ?_
      rintro e W3 ⟨rfl, hJ3, hk3⟩
      have hb3 := hk3 _ hbox
      have hc3 := hb3.cell
      have hf3 := hb3.frozen
      gi_wp2
      refine ⟨⟨j, v / 128, pre ++ [Tryz.moreB v], by simp; omega, by omega, Tryz.rest7_lt hvk, by omega, hb3.set _, hJu _ _ _ hJ3, ?_⟩, ?_⟩
      · rw [← hvs, List.append_assoc]
        congr 1
        rw [show Tryz.vints (j + 1 + 1) v = if v > 127 then Tryz.moreB v :: Tryz.vints (j + 1) (Tryz.rest7 v) else [Tryz.lowB v] from rfl, if_pos hgt]
        rfl
      · unfold Tryz.boxN
        rw [(hb3.set _).cell, hbox.cell]
        simp only
        omega
    · obtain ⟨fn, tmps, assign, body, hy, hR⟩ := hY pre (Tryz.lowB v) wr hJ (by omega)
      unfold Tryz.lowB at hy
      gi_wp2
      refine hR.mono ?_
      rintro e W3 ⟨rfl, hJ3, hk3⟩
      gi_wp2
      go_end0
      refine ⟨⟨_, rfl⟩, ?_⟩
      rw [← hvs, show Tryz.vints (k + 1) v = if v > 127 then Tryz.moreB v :: Tryz.vints k (Tryz.rest7 v) else [Tryz.lowB v] from rfl, if_neg (by omega)]
      exact hJ3
end Go.Proofs

/- A row of bytes that the call owns, whose frozen mark (if any) lies behind its cells: what []byte(s) lays. -/
namespace Go
open Go.RowKit

def World.ownsM (w : World) (base : Nat) (e : TypeId) (v : Value) (n : Nat) (xs : List Value) : Prop :=
  xs.length = n ∧ ∃ g cap cur fz, v = .slice (some ⟨g, 0, none⟩) n cap ∧ base ≤ g ∧ w.heap[g]? = some (.cells cur e fz) ∧ (cur.size ≤ fz.1 ∨ fz.2 = 0) ∧ n ≤ cap ∧ cap ≤ maxLen ∧ cur.size = cap ∧ cur.toList.take n = xs

section
variable {w : World} {base : Nat} {e : TypeId} {v : Value} {n : Nat} {xs : List Value} {P : Program}

theorem World.ownsM.kept {w' : World} {row : Option Nat} (h : w.ownsM base e v n xs) (hg : w.grownBy w' row) (hne : v.ownBlock ≠ row) : w'.ownsM base e v n xs := by
  obtain ⟨h1, g, cap, cur, fz, rfl, hb, hgg, rest⟩ := h
  refine ⟨h1, g, cap, cur, fz, rfl, hb, ?_, rest⟩
  rw [hg.block g (Array.getElem?_eq_some_iff.1 hgg).1 (by simpa [Value.ownBlock] using hne)]
  exact hgg

theorem World.ownsM.alloc (h : w.ownsM base e v n xs) (o : Obj) : (w.alloc o).ownsM base e v n xs :=
  h.kept (World.grownBy_alloc w o none) (by obtain ⟨_, g, cap, cur, fz, rfl, _⟩ := h; simp [Value.ownBlock])

theorem World.ownsM.cells (h : w.ownsM base e v n xs) {g : Nat} (hg : v.ownBlock = some g) : ∀ j u, xs[j]? = some u → w.cell? ((⟨g, 0, none⟩ : Addr).add j) = some u := by
  intro j u hu
  obtain ⟨h1, g', cap, cur, fz, rfl, hb, hgg, _, _, _, _, htake⟩ := h
  simp [Value.ownBlock] at hg
  subst hg
  have hadd : (⟨g', 0, none⟩ : Addr).add j = ⟨g', j, none⟩ := by unfold Addr.add; split <;> simp_all
  rw [hadd, cell_of_row w g' j cur e fz hgg]
  rw [← htake, List.getElem?_take] at hu
  split at hu
  · simpa using hu
  · cases hu

theorem run_storeCells_atM (P : Program) (g o : Nat) (t : TypeId) (fz : Nat × Nat) (v : Value) (cur : Array Value) (w : World) (hg : w.heap[g]? = some (.cells cur t fz)) (hfz : cur.size ≤ fz.1 ∨ fz.2 = 0) (hl : o < cur.size) (h1 : v.oneCell' = true) :
    (storeCells ⟨g, o, none⟩ [v] 0).run P w = .ok () (w.setRow g (cur.setIfInBounds o v)) := by
  have hadd : (⟨g, o, none⟩ : Addr).add 0 = ⟨g, o, none⟩ := by unfold Addr.add; split <;> simp_all
  have hcell : w.cell? ⟨g, o, none⟩ = some cur[o] := by simp [World.cell?, hg, hl]
  have hfro : w.frozen? ⟨g, o, none⟩ = false := by
    obtain ⟨lo, hi'⟩ := fz
    simp only [World.frozen?, hg, Bool.and_eq_false_iff, decide_eq_false_iff_not]
    simp only at hfz
    omega
  have hst : (store ((⟨g, o, none⟩ : Addr).add 0) v).run P w = .ok () (w.setRow g (cur.setIfInBounds o v)) := by
    rw [hadd, run_store P w _ v _ h1, hcell]
    simp [hfro, setCell_eq_setRow w g o cur t fz v hg]
  simp only [storeCells, Sem.run_bind, hst, Result.andThen_ok]
  rfl

theorem run_append_ownM (t ty : TypeId) (i : TypeInfo) (z : Value) (bytes : Nat) (ht : P.underlying t = some (.slice e)) (hi : P.info? e = some i) (hz : i.zero = some z)
    (hsize : i.size = 1) (hby : i.bytes = bytes) (hzs : z.cells.size = 1) (hown : w.ownsM base e v n xs)
    (a : Addr) (c : Nat) (u : Value) (hnews : w.cell? a = some u) (h1 : u.oneCell' = true)
    (h63 : n + 1 ≤ maxLen) (hbytes : (n + 1) * bytes ≤ 140737488355328) (hbase : base ≤ w.heap.size) :
    ∃ v' w', (Builtin.append_ #[t, t] ty #[v, .slice (some a) 1 c]).run P w = .ok v' w' ∧ w'.ownsM base e v' (n + 1) (xs ++ [u]) ∧ w.grownBy w' v.ownBlock := by
  subst hby
  have hnews' : ∀ j x, [u][j]? = some x → w.cell? (a.add j) = some x := by
    intro j x hx
    match j, hx with
    | 0, hx => have : a.add 0 = a := by unfold Addr.add; split <;> simp_all
               rw [this, hnews]; simpa using hx
  have hown' := hown
  obtain ⟨hxl, g, cap, cur, fz, rfl, hbg, hg, hfz, hnc, hcm, hcs, htake⟩ := hown
  have hlen : (xs ++ [u]).length = n + 1 := by simp [hxl]
  by_cases hroom : n + 1 ≤ cap
  · have hf := run_firstCells_some (P := P) w i.size 1 a 1 c [u] (by simp [hsize]) hnews'
    have hst := run_storeCells_atM P g n e fz u cur w hg hfz (by omega) h1
    refine ⟨.slice (some ⟨g, 0, none⟩) (n + 1) cap, w.setRow g (cur.setIfInBounds n u), ?_, ⟨hlen, g, cap, _, fz, rfl, hbg, setRow_heap w g cur _ e _ hg, by simpa using hfz, hroom, hcm, by simpa using hcs, ?_⟩,
      ⟨rfl, rfl, rfl, by simp, fun k _ hk => setRow_other w g k _ (fun e => hk (by simp [Value.ownBlock, e]))⟩⟩
    · rw [hsize] at hf
      simp [Builtin.append_, run_underlying ht, sizeOf, typeInfo, hi, Builtin.lenOf, hroom, hsize, hf, Addr.add_lit, hst]
    · rw [Array.toList_setIfInBounds, List.take_set, ← htake]
      apply List.ext_getElem?
      intro j
      have hlt : n < cur.toList.length := by simpa using (by omega : n < cur.size)
      rcases Nat.lt_trichotomy j n with h | h | h
      · rw [List.getElem?_set_ne (by omega), List.getElem?_append_left (by simp; omega)]
        simp [List.getElem?_take, h, Nat.lt_succ_of_lt h]
      · subst h
        rw [List.getElem?_set_self (by simp; omega), List.getElem?_append_right (by simp; omega)]
        simp [Nat.min_eq_left (by omega : j ≤ cur.size)]
      · rw [List.getElem?_eq_none (by simp; omega), List.getElem?_eq_none (by simp; omega)]
  · have holds : ∀ j u, xs[j]? = some u → w.cell? ((⟨g, 0, none⟩ : Addr).add j) = some u := hown'.cells (g := g) rfl
    have hr := run_append_grow (P := P) w t ty e i z ht hi hz ⟨g, 0, none⟩ n cap xs (by simp [hsize, hxl]) holds a 1 c [u] (by simp [hsize]) hnews' (by omega) (by simp only [maxLen] at h63; omega) (growslice_fits (by omega) hbytes)
    have hge := grownCap_ge w (n + 1) cap e
    have hcm' : grownCap w (n + 1) cap e ≤ maxLen := grownCap_le_maxLen w (n + 1) cap e h63
    refine ⟨_, _, hr, ⟨hlen, w.heap.size, _, _, (0, 0), rfl, hbase, heap_alloc_new w.drew _, .inr rfl, hge, hcm', ?_, ?_⟩, ⟨rfl, rfl, rfl, by simp, fun k hk _ => heap_alloc_old w.drew _ k hk⟩⟩
    · simp only [Array.size_append, List.size_toArray, size_zeroCells, hzs, hxl]
      simp; omega
    · simp only [Array.toList_append, List.append_assoc]
      rw [← List.append_assoc, ← hlen]
      exact List.take_left

theorem wpListIn_append_ownM {F : Fence} {n' : Nat} (w : World) {ops : Array Oper} {rest : List Oper} {o : Oper} {a : Act} {Q : Exit → Act → World → Prop}
    (hgd : o.guard = none) (s x : Operand) (t : TypeId) (ho : o.op = Op.call { callee := Callee.builtin Builtin.append, args := #[s, x], argTypes := #[t, t] })
    (base : Nat) (e : TypeId) (i : TypeInfo) (z : Value) (bytes : Nat) (ht : P.underlying t = some (.slice e)) (hi : P.info? e = some i) (hz : i.zero = some z) (hsize : i.size = 1) (hby : i.bytes = bytes) (hzs : z.cells.size = 1)
    (v : Value) (n : Nat) (xs : List Value) (hs : a.eval s = v) (hown : w.ownsM base e v n xs) (ad : Addr) (c : Nat) (u : Value) (hx : a.eval x = .slice (some ad) 1 c) (hnews : w.cell? ad = some u) (h1 : u.oneCell' = true)
    (h63 : n + 1 ≤ maxLen) (hbytes : (n + 1) * bytes ≤ 140737488355328) (hbase : base ≤ w.heap.size)
    (h : ∀ v' w', w'.ownsM base e v' (n + 1) (xs ++ [u]) → w.grownBy w' v.ownBlock → wpListIn F n' P ops Q rest (a.put o.dst v') w') :
    wpListIn F n' P ops Q (o :: rest) a w := by
  refine wpListIn_plain hgd fun K hK => ?_
  obtain ⟨v', w', hr, h2, h3⟩ := run_append_ownM (P := P) t o.type i z bytes ht hi hz hsize hby hzs hown ad c u hnews h1 h63 hbytes hbase
  unfold Oper.wpIn
  refine ⟨?_, ?_⟩
  · simp [Oper.about, ho, resolve, Target.leads, Sem.run_pure]
  · rw [Oper.semAt_plain F _ _ (by rw [ho]; intro c hc'; cases hc')]
    simp [execOp, ho, resolve, invoke, builtin, hs, hx, hr, Result.andThen]
    exact hK _ _ (h v' w' h2 h3)

theorem ownsM_succ {W : World} (h : W.ownsM base e v n xs) : ∃ g cap, v = .slice (some ⟨g, 0, none⟩) n cap := by
  obtain ⟨_, g, cap, _, _, rfl, _⟩ := h
  exact ⟨g, cap, rfl⟩

theorem Boxed.not_rowM {W : World} {B : Nat} {t : TypeId} {u : Value} (h : Boxed W B t u) (hte : t ≠ e) (hr : W.ownsM base e v n xs) : some B ≠ v.ownBlock := by
  obtain ⟨_, g, cap, cur, fz, rfl, _, hgb, _⟩ := hr
  intro e'
  obtain rfl : B = g := by simpa [Value.ownBlock] using e'
  have := (show W.heap[B]? = _ from h).symm.trans hgb
  simp at this
  exact hte this.2.1

theorem holdsRow_ownM {β : Type} (n₀ B : Nat) (t e : TypeId) (k : β → Nat) (f : β → List Value) : Own (fun s W => ∃ v, Boxed W B t v ∧ W.ownsM n₀ e v (k s) (f s)) := by
  rintro s X Y row ⟨v, hv, hr⟩ hg hrow
  refine ⟨v, hv.kept hg (fun e' => ?_), hr.kept hg ?_⟩
  · obtain ⟨o, ho, hc⟩ := hrow B e'.symm
    rw [show X.heap[B]? = _ from hv] at ho; cases ho; cases hc
  · obtain ⟨_, g, cap, cur, fz, rfl, _, hgb, _⟩ := hr
    intro e'
    obtain ⟨o, ho, hc⟩ := hrow g (by simpa [Value.ownBlock] using e'.symm)
    rw [hgb] at ho; cases ho; cases hc

theorem Boxed.appendedM {W w1 : World} {n₀ B : Nat} {t e : TypeId} {v v' : Value} {k m : Nat} {xs ys : List Value} {tmp : Obj}
    (hv : Boxed W B t v) (hte : t ≠ e) (hrow : W.ownsM n₀ e v k xs) (hn₀ : n₀ ≤ W.heap.size) (hB : n₀ ≤ B)
    (hown' : w1.ownsM n₀ e v' m ys) (hgrow : (W.alloc tmp).grownBy w1 v.ownBlock) :
    Boxed w1 B t v ∧ Boxed (w1.setCell ⟨B, 0, none⟩ v') B t v' ∧ (w1.setCell ⟨B, 0, none⟩ v').ownsM n₀ e v' m ys ∧ KeepsOthers W (w1.setCell ⟨B, 0, none⟩ v') ∧ Below n₀ W (w1.setCell ⟨B, 0, none⟩ v') := by
  have hv1 : Boxed w1 B t v := (hv.alloc tmp).kept hgrow (hv.not_rowM hte hrow)
  refine ⟨hv1, hv1.set v', hown'.kept (grownBy_setCell' w1 B v') (hv1.not_rowM hte hown').symm, ?_, ?_⟩
  · refine ((KeepsOthers.alloc W tmp).trans (KeepsOthers.of_grownBy hgrow fun j o ej hj => ?_)).trans (KeepsOthers.setCell _ _ _)
    obtain ⟨_, g, cap, cur, fz, rfl, _, hgb, _⟩ := hrow.alloc tmp
    obtain rfl : g = j := by simpa [Value.ownBlock] using ej
    rw [hgb] at hj; cases hj; rfl
  · refine (((Below.refl n₀ W).alloc hn₀ tmp).grown hgrow (by simp; omega) fun j ej => ?_).setCell (p := ⟨B, 0, none⟩) hB v'
    obtain ⟨_, g, cap, cur, fz, rfl, hb, _, _⟩ := hrow
    obtain rfl : g = j := by simpa [Value.ownBlock] using ej
    exact hb

theorem ownsM_putObj {W : World} (h : W.ownsM base e v n xs) {l : Nat} {o : Obj} (o' : Obj) (hl : W.heap[l]? = some o) (ho : o.isCells = false) : (W.putObj l o').ownsM base e v n xs := by
  refine h.kept (grownBy_putObj' W l o') ?_
  obtain ⟨_, g, cap, cur, fz, rfl, _, hgb, _⟩ := h
  intro e'
  obtain rfl : g = l := by simpa [Value.ownBlock] using e'
  rw [hgb] at hl; cases hl; cases ho
end
end Go

/- wire.put and wire.PutInt, over this seat's program. -/
namespace Go.Proofs
open Go.RowKit Go.Shelf

attribute [local go_sem] Oper.semAt_some

theorem Tryz.info5 : (Tryz.prog.info? 5).map (fun i => (i.zero, i.size, i.bytes)) = some (some (.int .u8 0), 1, 1) := by kernel_rfl

/-- A loop over the bytes of a number: the number's box turns between the rounds, and the loop's own blocks. -/
theorem Tryz.range_bytes {F : Fence} {n : Nat} {g : Operand} {ps : Array Tmp} {assign body : Code} {Q : Exit → Act → World → Prop} {a : Act} {w : World} (hro : F.round = none) (hn : 2 ≤ n) {Bu : Nat} {u : Int}
    (hg : a.eval g = .func (.func 348) #[] #[.pointer (some ⟨Bu, 0, none⟩)]) (hFg : F.fn 348) (eg : ∀ args w, (callFunc 348 args).run Tryz.prog w = .ok (.enter 348 args) w) (hu0 : 0 ≤ u) (hu : u < 2 ^ 64)
    (hbU : Boxed w Bu 339 (.int .u64 u)) (hps : ps.size = 1) (I : List Int → World → Prop) (hI : OwnFrom w.heap.size I) (hIu : ∀ pre W v v', Boxed W Bu 339 v' → I pre W → I pre (W.setCell ⟨Bu, 0, none⟩ v)) (h0 : I [] w) (a₁ : Int → Act)
    (hassign : ∀ (l : Nat) (x : Int) (W : World) (K : Act → World → Prop), K (a₁ x) W →
      assign.wpIn (F.inRound l) (n - 1 - 1) Tryz.prog (Exit.then K (fun _ _ _ => False)) { tmps := (ps.zip #[Value.int .u8 x]).foldl (fun t (p, v) => t.setIfInBounds p v) a.tmps, defers := [] } W)
    (hbody : ∀ (l : Nat) (pre : List Int) (x : Int) (W : World) (v : Value), Boxed W Bu 339 v → I pre W → pre.length < 10 → w.heap.size ≤ W.heap.size →
      body.wpIn (F.inRound l) (n - 1 - 1) Tryz.prog (fun e _ W' => e = .normal ∧ KeepsFrom w.heap.size W W' ∧ I (pre ++ [x]) W' ∧ Boxed W' Bu 339 v) (a₁ x) W)
    (hdone : ∀ (W : World), I (Tryz.vints 10 u) W → W.heap[w.heap.size]? = some (.deferred (some [])) → Q .normal { a with defers := { target := .collected w.heap.size, args := #[] } :: a.defers } W) :
    (Code.rangeFunc g ps assign body).wpIn F n Tryz.prog Q a w := by
  refine wpIn_rangeFunc ?_
  intro fn hfn
  rw [hro]
  obtain ⟨rec, hrec⟩ : ∃ rec : LoopState → Option Code → Loop, rec = fun st pe => { state := st, pending := pe, fn, tmps := a.tmps, params := ps, assign, body, defers := w.heap.size } := ⟨_, rfl⟩
  obtain ⟨W1, hW1⟩ : ∃ W1, (w.alloc (.deferred (some []))).alloc (.loop (rec .ready none)) = W1 := ⟨_, rfl⟩
  have hL1 : W1.heap[w.heap.size + 1]? = some (.loop (rec .ready none)) := by
    rw [← hW1]; have := World.alloc_heap_new (w.alloc (.deferred (some []))) (.loop (rec .ready none)); rwa [World.size_alloc] at this
  have hK1 : W1.heap[w.heap.size]? = some (.deferred (some [])) := by
    rw [← hW1]; exact (Below.heap_alloc _ _ _ (by simp)).trans (World.alloc_heap_new w _)
  have hI1 : I [] W1 := by rw [← hW1]; exact hI.alloc _ (hI.alloc _ h0)
  have hU1 : Boxed W1 Bu 339 (.int .u64 u) := by rw [← hW1]; exact (hbU.alloc _).alloc _
  have hBu := hbU.lt
  have hother : ∀ {W : World} {l : Nat} {o : Obj} {v : Value}, w.heap.size ≤ l → Boxed W Bu 339 v → Boxed (W.putObj l o) Bu 339 v := fun hl hb => by
    unfold Boxed at *; rw [World.putObj_heap_other (by omega)]; exact hb
  refine ⟨w.heap.size + 1, [{ target := .collected w.heap.size, args := #[] }], W1, { target := .fn (.func 348) #[.pointer (some ⟨Bu, 0, none⟩)], args := #[.func (.yield (w.heap.size + 1)) #[] #[]] }, W1, 348,
    #[.func (.yield (w.heap.size + 1)) #[] #[]] ++ #[.pointer (some ⟨Bu, 0, none⟩)], W1, ?_, ?_, ?_, ?_, fun _ => by omega, ?_⟩
  · rw [← hW1, hrec]; exact run_enterLoop_outer _ _ _ _ _
  · simp only [resolve, hg]
    simp [go_sem]
  · intro f' hf'; simp [Target.leads] at hf'; subst hf'; exact hFg
  · simp [invoke, go_sem, eg]
  · refine (Tryz.groups1_in F (n - 1) hFg hro (by omega) (w.heap.size + 1) Bu
      (fun pre W => (I pre W ∧ ∃ v, Boxed W Bu 339 v) ∧ W.heap[w.heap.size + 1]? = some (.loop (rec .ready none)) ∧ W.heap[w.heap.size]? = some (.deferred (some []))) ?_ ?_ W1 u hu0 hu hU1 ⟨⟨hI1, _, hU1⟩, hL1, hK1⟩).mono ?_
    · rintro pre W v ⟨⟨hi, v', hb⟩, hl, hk⟩
      have hset : ∀ j, j ≠ Bu → (W.setCell ⟨Bu, 0, none⟩ v).heap[j]? = W.heap[j]? := fun j hj => by
        rcases Nat.lt_or_ge j W.heap.size with h | h
        · exact (grownBy_setCell' W Bu v).block j h (fun e => hj (by cases e; rfl))
        · have e1 : (W.setCell ⟨Bu, 0, none⟩ v).heap.size = W.heap.size := by simp
          rw [Array.getElem?_eq_none h, Array.getElem?_eq_none (by omega)]
      exact ⟨⟨hIu pre W v v' hb hi, _, hb.set v⟩, (hset _ (by omega)).trans hl, (hset _ (by omega)).trans hk⟩
    · rintro pre x W ⟨⟨hi, v, hb⟩, hl, hk⟩ hlen
      have hlt : w.heap.size + 1 < W.heap.size := (Array.getElem?_eq_some_iff.1 hl).1
      have hy := run_yield (P := Tryz.prog) (args := #[Value.int .u8 x]) hl (by rw [hrec]; simp [hps])
      rw [hrec] at hy
      refine ⟨fn, _, assign, body, hy, roundIn_of_wpIn hfn (hassign _ x W _ ?_)⟩
      clear hy
      refine ⟨_, run_beginRound hl (by rw [hrec]), ?_⟩
      have hl2 : (W.putObj (w.heap.size + 1) (.loop { rec .ready none with state := .busy })).heap[w.heap.size + 1]? = some (.loop { rec .ready none with state := .busy }) := World.putObj_heap_same hlt
      have hk2 : (W.putObj (w.heap.size + 1) (.loop { rec .ready none with state := .busy })).heap[w.heap.size]? = some (.deferred (some [])) := (World.putObj_heap_other (by omega)).trans hk
      refine wpIn_mono (hbody _ pre x _ v (hother (by omega) hb) (hI.putObj _ hi (by omega) hl rfl) hlen (by simp; omega)) ?_
      rintro e a3 W3 ⟨rfl, hk3, hi3, hb3⟩
      have hl3 := hk3.same _ _ (by omega) hl2 rfl
      have hr := run_endRound (P := Tryz.prog) none hl3
      refine ⟨_, _, hr, rfl, ⟨⟨hI.putObj _ hi3 (by omega) hl3 rfl, _, hother (by omega) hb3⟩, ?_, (World.putObj_heap_other (by omega)).trans (hk3.same _ _ (Nat.le_refl _) hk2 rfl)⟩, ?_⟩
      · rw [World.putObj_heap_same (Array.getElem?_eq_some_iff.1 hl3).1, hrec]; rfl
      · intro v0 hv0
        refine hother (by omega) ?_
        have : v0 = v := by
          have h1 : W.heap[Bu]? = some (.cells #[v0] 339 (0, 0)) := hv0
          have h2 : W.heap[Bu]? = some (.cells #[v] 339 (0, 0)) := hb
          rw [h1] at h2; cases h2; rfl
        rw [this]; exact hb3
    · rintro e W2 ⟨⟨v, rfl⟩, ⟨hi, _⟩, hl, hk⟩
      exact ⟨none, _, by have := run_endLoop (P := Tryz.prog) hl (by rw [hrec]; simp); rw [hrec] at this; exact this, hdone _ (hI.putObj _ hi (by omega) hl rfl) ((World.putObj_heap_other (by omega)).trans hk)⟩

set_option maxHeartbeats 1000000 in
theorem Tryz.groups_in (F : Fence) (n : Nat) (h5 : F.fn 303) (hro : F.round = none) (u : Int) (w : World) :
    CallsIn F n Tryz.prog 303 #[.int .u64 u] w fun e w' => e = .returned (.func (.func 348) #[] #[.pointer (some ⟨w.heap.size, 0, none⟩)]) ∧ w' = w.alloc (.cells #[.int .u64 u] 339) := by
  refine callsIn_of_wp Tryz.func303 rfl h5 ?_ hro
  simp only [Tryz.ntmps303, List.size_toArray, List.length_cons, List.length_nil, Nat.reduceAdd, Nat.reduceSub, Array.replicate_succ, Array.replicate_zero, List.push_toArray, List.append_toArray, List.nil_append, List.cons_append]
  gi_wp2
  go_ret
  exact ⟨rfl, rfl⟩

/-- A number's sign goes into its lowest bit. -/
def Tryz.zig (n : Int) : Int := bits BinOp.xor IntKind.u64 (IntKind.u64.wrap (IntKind.u64.wrap n * 2)) (IntKind.u64.wrap (n / 9223372036854775808))

theorem Tryz.bits_u64 (op : BinOp) (a b : Int) (h : op = .xor) : 0 ≤ bits op IntKind.u64 a b ∧ bits op IntKind.u64 a b < 2 ^ 64 := by
  subst h
  have e : ∀ m : Int, IntKind.u64.wrap m = m % 2 ^ 64 := fun m => by unfold IntKind.wrap; simp [IntKind.bits, IntKind.signed]
  unfold bits
  simp only [IntKind.bits]
  rw [e]
  constructor <;> omega

set_option maxRecDepth 100000 in
set_option maxHeartbeats 4000000 in
theorem Tryz.put_in (F : Fence) (n : Nat) (h0 : F.fn 247) (h5 : F.fn 303) (h7 : F.fn 348) (hro : F.round = none) (hn : 3 ≤ n) (n₀ : Nat) (a : Option Addr) (m cap : Nat) (xs : List Int) (hlen : xs.length + 10 ≤ 2 ^ 46) (kk : Int) (w : World) (hn₀ : n₀ ≤ w.heap.size)
    (hrow : w.ownsM n₀ 5 (.slice a m cap) xs.length (xs.map (Value.int .u8))) :
    CallsIn F n Tryz.prog 247 #[.slice a m cap, .int .i64 kk] w fun e W' => ∃ v, e = .returned v ∧ W'.ownsM n₀ 5 v (xs ++ Tryz.vints 10 (Tryz.zig kk)).length ((xs ++ Tryz.vints 10 (Tryz.zig kk)).map (Value.int .u8)) ∧ Below n₀ w W' := by
  have h1 : 1 ≤ n := by omega
  obtain ⟨i0, hi, hz0, hz1, hz2⟩ := info_parts Tryz.info5
  obtain ⟨hu0, hu1⟩ := Tryz.bits_u64 .xor (IntKind.u64.wrap (IntKind.u64.wrap kk * 2)) (IntKind.u64.wrap (kk / 9223372036854775808)) rfl
  change 0 ≤ Tryz.zig kk at hu0
  change Tryz.zig kk < 2 ^ 64 at hu1
  refine callsIn_of_wp_marks Tryz.func247 rfl h0 ?_ hro
  simp only [Tryz.ntmps247, List.size_toArray, List.length_cons, List.length_nil, Nat.reduceAdd, Nat.reduceSub, Array.replicate_succ, Array.replicate_zero, List.push_toArray, List.append_toArray, List.nil_append, List.cons_append]
  gi_wp2_with (gi_at_call 303; refine (Tryz.groups_in F (n - 1) h5 hro _ _).mono ?_; rintro e w' ⟨rfl, rfl⟩)
  change Code.wpIn F n Tryz.prog _ _ { tmps := #[_, _, _, _, _, _, _, _, _, _, _, _, .int .u64 (Tryz.zig kk), _, _, _, _, _, _, _], defers := [] } ((w.alloc _).alloc (.cells #[.int .u64 (Tryz.zig kk)] 339))
  obtain ⟨u, hzig⟩ : ∃ u, Tryz.zig kk = u := ⟨_, rfl⟩
  rw [hzig] at hu0 hu1 ⊢
  have bB := (Boxed.new w 22 (.slice a m cap)).alloc (.cells #[.int .u64 u] 339)
  have bU : Boxed ((w.alloc (.cells #[.slice a m cap] 22)).alloc (.cells #[.int .u64 u] 339)) (w.heap.size + 1) 339 (.int .u64 u) := by
    have := Boxed.new (w.alloc (.cells #[.slice a m cap] 22)) 339 (.int .u64 u)
    rwa [World.size_alloc] at this
  have hrow0 := (hrow.alloc (.cells #[.slice a m cap] 22)).alloc (.cells #[.int .u64 u] 339)
  have hbl : Below n₀ w ((w.alloc (.cells #[.slice a m cap] 22)).alloc (.cells #[.int .u64 u] 339)) := ((Below.refl n₀ w).alloc hn₀ _).alloc (by simp; omega) _
  have hsz : ((w.alloc (.cells #[.slice a m cap] 22)).alloc (.cells #[.int .u64 u] 339)).heap.size = w.heap.size + 2 := by simp
  generalize (w.alloc (.cells #[.slice a m cap] 22)).alloc (.cells #[.int .u64 u] 339) = W0 at *
  refine Tryz.range_bytes hro (by omega) (Bu := w.heap.size + 1) (u := u) rfl h7 (enters_of Tryz.func348 (by kernel_rfl) rfl) hu0 hu1 bU rfl
    (fun pre W => (∃ v, Boxed W w.heap.size 22 v ∧ W.ownsM n₀ 5 v (xs ++ pre).length ((xs ++ pre).map (Value.int .u8))) ∧ Below n₀ w W) ?own ?box ?start
    (fun x => { tmps := #[Value.slice a m cap, Value.int IntKind.i64 kk, Value.pointer (some { block := w.heap.size, off := 0 }), undef, Value.slice none 0 0, .int .u8 x, Value.int IntKind.i64 kk, Value.int IntKind.u64 (IntKind.u64.wrap kk),
        Value.int IntKind.u64 (IntKind.u64.wrap (IntKind.u64.wrap kk * 2)), Value.int IntKind.i64 kk, Value.int IntKind.i64 (kk / 9223372036854775808), Value.int IntKind.u64 (IntKind.u64.wrap (kk / 9223372036854775808)), Value.int IntKind.u64 u,
        Value.func (Fn.func 348) #[] #[Value.pointer (some { block := w.heap.size + 1, off := 0 })], .int .u8 x, undef, undef, undef, undef, undef], defers := [] }) ?assign ?body ?done
  case own => exact OwnFrom.and (Own.from (holdsRow_ownM n₀ w.heap.size 22 5 (fun pre => (xs ++ pre).length) (fun pre => (xs ++ pre).map (Value.int .u8))) _) (ownFrom_below hn₀ (by omega))
  case box =>
    rintro pre W v v' hb ⟨⟨sv, hv, hr⟩, hB⟩
    exact ⟨⟨sv, hv.other (by omega) v, hr.kept (grownBy_setCell' W (w.heap.size + 1) v) (hb.not_rowM (by decide) hr).symm⟩, hB.setCell (p := ⟨w.heap.size + 1, 0, none⟩) (by show n₀ ≤ w.heap.size + 1; omega) v⟩
  case start => exact ⟨⟨_, bB, by simpa using hrow0⟩, hbl⟩
  case assign =>
    intro l x W K hK
    gi_wp2
    exact hK
  case body =>
    rintro l pre x W v bV ⟨⟨sv, hv, hr⟩, hB⟩ hlt hW
    have hc := hv.cell
    have hnW : n₀ ≤ W.heap.size := by omega
    gi_wp2_with (gi_at_builtin; refine wpListIn_append_ownM _ rfl _ _ 22 rfl n₀ 5 i0 (.int .u8 0) 1 Tryz.underlying22 hi hz0 hz1 hz2 rfl _ _ _ rfl (hr.alloc _) ⟨W.heap.size, 0, none⟩ 1 (.int .u8 x) rfl (cell_one_new _ _ _ 0 _ rfl) rfl (by simp [maxLen]; omega) (by simp; omega) (by simp; omega) ?_; intro v' w1 hown' hgrow; obtain ⟨g', cap', rfl⟩ := ownsM_succ hown'; obtain ⟨hv1, hv2, hr2, hk2, hb2⟩ := hv.appendedM (by decide) hr hnW hn₀ hown' hgrow; have hc1 := hv1.cell; have hf1 := hv1.frozen; have bV1 := (bV.alloc _).kept hgrow (bV.not_rowM (by decide) hr))
    have e : (xs ++ pre).length = xs.length + pre.length := by simp
    rw [e] at hv2 hr2 hk2 hb2
    exact ⟨hk2.from _, ⟨⟨_, hv2, by simpa [List.append_assoc, Nat.add_assoc] using hr2⟩, hB.trans hb2⟩, bV1.other (by omega) _⟩
  case done =>
    rintro W ⟨⟨v, hv, hr⟩, hB⟩ hK
    have hc := hv.cell
    gi_wp2
    refine ⟨by simp, .inl ⟨_, _, rfl, run_takeDeferred hK, ?_⟩⟩
    rw [hzig]
    exact ⟨_, results_tmp rfl _ _ _, v, rfl, ownsM_putObj hr _ hK rfl, hB.trans (belowK_b (w := w) hn₀ W _ _ _ (by omega) hK rfl rfl)⟩


theorem Tryz.bits_u8 (op : BinOp) (a b : Int) (h : op = .or) : 0 ≤ bits op IntKind.u8 a b ∧ bits op IntKind.u8 a b < 256 := by
  subst h
  have e : ∀ m : Int, IntKind.u8.wrap m = m % 2 ^ 8 := fun m => by unfold IntKind.wrap; simp [IntKind.bits, IntKind.signed]
  unfold bits
  simp only [IntKind.bits]
  rw [e]
  constructor <;> omega

theorem Tryz.vints_byte : ∀ (k : Nat) (u : Int), 0 ≤ u → ∀ x ∈ Tryz.vints k u, 0 ≤ x ∧ x < 256
  | 0, u, hu, x, hx => by simp [Tryz.vints] at hx
  | k + 1, u, hu, x, hx => by
    unfold Tryz.vints at hx
    split at hx
    · rcases List.mem_cons.1 hx with rfl | hx
      · exact Tryz.bits_u8 .or _ _ rfl
      · exact Tryz.vints_byte k _ (by unfold Tryz.rest7; omega) x hx
    · simp [Tryz.lowB] at hx; omega

/-- The bytes that PutInt puts behind. -/
def Tryz.putBytes (kk : Int) : List UInt8 := (Tryz.vints 10 (Tryz.zig kk)).map fun x => UInt8.ofNat x.toNat

theorem Tryz.putBytes_int (kk : Int) : (Tryz.putBytes kk).map (fun b => (b.toNat : Int)) = Tryz.vints 10 (Tryz.zig kk) := by
  unfold Tryz.putBytes
  rw [List.map_map]
  conv => rhs; rw [← List.map_id (Tryz.vints 10 (Tryz.zig kk))]
  apply List.map_congr_left
  intro x hx
  have := Tryz.vints_byte 10 (Tryz.zig kk) (Tryz.bits_u64 .xor _ _ rfl).1 x hx
  simp; omega

set_option maxRecDepth 100000 in
set_option maxHeartbeats 4000000 in
theorem Tryz.putInt_in (F : Fence) (n : Nat) (hA : F.fn 192) (h0 : F.fn 247) (h5 : F.fn 303) (h7 : F.fn 348) (hro : F.round = none) (hn : 4 ≤ n) (s : ByteArray) (hlen : s.size + 10 ≤ 2 ^ 46) (kk : Int) (w : World) :
    CallsIn F n Tryz.prog 192 #[.string s, .int .i64 kk] w fun e W' => e = .returned (.string ⟨(s.data.toList ++ Tryz.putBytes kk).toArray⟩) ∧ Below w.heap.size w W' := by
  refine callsIn_of_wp Tryz.func192 rfl hA ?_ hro
  simp only [Tryz.ntmps192, List.size_toArray, List.length_cons, List.length_nil, Nat.reduceAdd, Nat.reduceSub, Array.replicate_succ, Array.replicate_zero, List.push_toArray, List.append_toArray, List.nil_append, List.cons_append]
  have hcv := run_bytes_of_string (P := Tryz.prog) w 9 22 5 s Tryz.underlying9 Tryz.underlying22 Tryz.underlying5
  generalize hcap : grownCap w s.size 0 5 = cap at hcv
  have hcapge : s.size ≤ cap := by rw [← hcap]; exact grownCap_ge _ _ _ _
  have hcaple : cap ≤ maxLen := by rw [← hcap]; exact grownCap_le_maxLen _ _ _ _ (by simp [maxLen]; omega)
  have hss : s.data.size = s.size := rfl
  have hcs : (bytesRow s cap).size = cap := by simp [bytesRow]; omega
  generalize hW : w.drew.alloc _ = W1 at hcv
  have hB1 : Below w.heap.size w W1 := by rw [← hW]; exact (Below.refl _ w).drew.alloc (by simp) _
  have hown : W1.ownsM w.heap.size 5 (.slice (some ⟨w.heap.size, 0, none⟩) s.size cap) (s.data.toList.map fun b => (b.toNat : Int)).length ((s.data.toList.map fun b => (b.toNat : Int)).map (Value.int .u8)) := by
    have hl : (s.data.toList.map fun b => (b.toNat : Int)).length = s.size := by simp
    rw [hl]
    refine ⟨by simp, w.heap.size, cap, bytesRow s cap, _, rfl, Nat.le_refl _, by rw [← hW]; exact heap_alloc_new w.drew _, .inl (Nat.le_refl _), hcapge, hcaple, hcs, ?_⟩
    have : (bytesRow s cap).toList = (s.data.toList.map fun b => (b.toNat : Int)).map (Value.int .u8) ++ List.replicate (cap - s.size) (.int .u8 0) := by simp [bytesRow]
    rw [this]
    exact List.take_left' (by simp)
  have hsz : w.heap.size ≤ W1.heap.size := hB1.size
  clear hW hcap
  have h1 : 1 ≤ n := by omega
  have hput := Tryz.put_in F (n - 1) h0 h5 h7 hro (by omega) w.heap.size _ _ _ _ (by simpa using hlen) kk W1 hsz hown
  clear hown
  have hlast : ∀ (W2 : World) (g cap' : Nat), W2.ownsM w.heap.size 5 (.slice (some ⟨g, 0, none⟩) ((s.data.toList.map fun b => (b.toNat : Int)) ++ Tryz.vints 10 (Tryz.zig kk)).length cap')
        ((s.data.toList.map fun b => (b.toNat : Int)) ++ Tryz.vints 10 (Tryz.zig kk)).length (((s.data.toList.map fun b => (b.toNat : Int)) ++ Tryz.vints 10 (Tryz.zig kk)).map (Value.int .u8)) →
      (convert 22 9 (.slice (some ⟨g, 0, none⟩) (s.size + (Tryz.vints 10 (Tryz.zig kk)).length) cap')).run Tryz.prog W2 = .ok (.string ⟨(s.data.toList ++ Tryz.putBytes kk).toArray⟩) W2 := by
    intro W2 g cap' hv
    have hll : (s.data.toList ++ Tryz.putBytes kk).length = s.size + (Tryz.vints 10 (Tryz.zig kk)).length := by simp [Tryz.putBytes, hss]
    rw [← hll]
    refine run_convert_bytes_back W2 22 9 5 _ cap' _ Tryz.underlying22 Tryz.underlying5 Tryz.underlying9 fun j hj => ?_
    refine hv.cells rfl j _ ?_
    rw [← Tryz.putBytes_int, ← List.map_append, List.map_map]
    rw [List.getElem?_map, List.getElem?_eq_getElem hj]; rfl
  gi_wp2_with (gi_at_call 247; refine hput.mono ?_; rintro e W2 ⟨v, rfl, hv, hB2⟩; obtain ⟨g, cap', rfl⟩ := ownsM_succ hv; have hcv2 := hlast W2 g cap' hv)
  go_ret
  exact ⟨rfl, hB1.trans hB2⟩
end Go.Proofs
