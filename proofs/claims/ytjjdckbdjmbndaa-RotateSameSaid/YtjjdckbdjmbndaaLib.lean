/-
  A small library for the walks of this seat: slices that can be read ('Rd'), slices that the call itself owns ('Own'), and the walk's laws for reading, storing, appending, making and cutting them. No conditions: all is over any program.
-/
import Derived.WalkKit
import Derived.WalkSpells
import Derived.WalkLawsBesides
import Derived.Deep.LoopGhost
import Derived.Lib.Hide
import Derived.Deep.CutRange
import Derived.Deep.DeepCutAuto
import Derived.Deep.QuietTactic
import Derived.BigQuiet
import Derived.StillTailTactics
import Derived.Deep.RegionWith
import Derived.Deep.RegionHeld3
import Derived.Deep.DeepMust
import Derived.Deep.DeepFit
import Derived.Lib.SlBytesConst
namespace Go.Proofs.Ytjjdckbdjmbndaa
set_option linter.unusedSimpArgs false
set_option linter.unusedVariables false
open Go.RowKit

/-- the address of a slice's j-th cell -/
def sAt (ad : Option Addr) (j : Nat) : Addr := (ad.getD ⟨0, 0, none⟩).add j

theorem add_block (a : Addr) (j : Nat) : (a.add j).block = a.block := by unfold Addr.add; split <;> rfl
theorem sAt_some (a : Addr) (j : Nat) : sAt (some a) j = a.add j := rfl
theorem sAt_lit (g j : Nat) : sAt (some ⟨g, 0, none⟩) j = ⟨g, j, none⟩ := by rw [sAt_some, Addr.add_lit]; simp

/-- a slice (of n elements of sz cells) that can be read: its cells are cs -/
structure Rd (w : World) (sz : Nat) (ad : Option Addr) (n cap : Nat) (cs : List Value) : Prop where
  len : cs.length = n * sz
  ncap : n ≤ cap
  capM : cap ≤ maxLen
  nil : ad = none → cap = 0
  one : ∀ u ∈ cs, u.oneCell' = true
  cell : ∀ a, ad = some a → ∀ j u, cs[j]? = some u → w.cell? (a.add j) = some u

theorem Rd.cellAt {w : World} {sz : Nat} {ad : Option Addr} {n cap : Nat} {cs : List Value} (h : Rd w sz ad n cap cs) {j : Nat} {u : Value} (hu : cs[j]? = some u) : w.cell? (sAt ad j) = some u := by
  have hj : j < cs.length := (List.getElem?_eq_some_iff.1 hu).1
  cases ad with
  | none =>
    have := h.nil rfl; have := h.ncap; have := h.len
    have : n = 0 := by omega
    subst this; omega
  | some a => exact h.cell a rfl j u hu

theorem Rd.ne {w : World} {sz : Nat} {ad : Option Addr} {n cap : Nat} {cs : List Value} (h : Rd w sz ad n cap cs) (hn : 0 < n) : ad ≠ none := by
  intro e; have := h.nil e; have := h.ncap; omega

/-- what is read stays, where the blocks that were there stay -/
theorem Rd.below {w w' : World} {sz : Nat} {ad : Option Addr} {n cap : Nat} {cs : List Value} (h : Rd w sz ad n cap cs) (hb : Below w.heap.size w w') : Rd w' sz ad n cap cs :=
  ⟨h.len, h.ncap, h.capM, h.nil, h.one, fun a ha j u hu => by
    have h1 := h.cell a ha j u hu
    have h2 := World.block_lt_of_cell? w (a.add j) h1
    rw [hb.cell h2]; exact h1⟩

/-- what is read stays in a world that has the same cells in its block -/
theorem Rd.keep {w w' : World} {sz : Nat} {ad : Option Addr} {n cap : Nat} {cs : List Value} (h : Rd w sz ad n cap cs) (hb : ∀ a, ad = some a → w'.heap[a.block]? = w.heap[a.block]?) : Rd w' sz ad n cap cs :=
  ⟨h.len, h.ncap, h.capM, h.nil, h.one, fun a ha j u hu => by
    rw [World.cell?_of_block (w := w) (by rw [add_block]; exact hb a ha)]; exact h.cell a ha j u hu⟩

theorem Rd.alloc {w : World} {sz : Nat} {ad : Option Addr} {n cap : Nat} {cs : List Value} (h : Rd w sz ad n cap cs) (o : Obj) : Rd (w.alloc o) sz ad n cap cs :=
  h.below ((Below.refl _ _).alloc (Nat.le_refl _) o)
theorem Rd.drew {w : World} {sz : Nat} {ad : Option Addr} {n cap : Nat} {cs : List Value} (h : Rd w sz ad n cap cs) : Rd w.drew sz ad n cap cs :=
  h.below ((Below.refl _ _).drew)

/-- the same, told once for all later worlds -/
theorem Rd.all {w : World} {sz : Nat} {ad : Option Addr} {n cap : Nat} {cs : List Value} (h : Rd w sz ad n cap cs) : ∀ W, Below w.heap.size w W → Rd W sz ad n cap cs := fun _ hb => h.below hb

/-- a slice that the call itself owns: its block is from lo on -/
def Own (w : World) (e sz lo : Nat) (ad : Option Addr) (n cap : Nat) (cs : List Value) : Prop :=
  w.ownsRow lo e sz (.slice ad n cap) n cs ∧ ∀ u ∈ cs, u.oneCell' = true

theorem Own.cases {w : World} {e sz lo : Nat} {ad : Option Addr} {n cap : Nat} {cs : List Value} (h : Own w e sz lo ad n cap cs) :
    cs.length = n * sz ∧ ((ad = none ∧ n = 0 ∧ cap = 0) ∨ ∃ g cur, ad = some ⟨g, 0, none⟩ ∧ lo ≤ g ∧ w.heap[g]? = some (.cells cur e (0, 0)) ∧ n ≤ cap ∧ cap ≤ maxLen ∧ cur.size = cap * sz ∧ cur.toList.take (n * sz) = cs) := by
  refine ⟨h.1.1, ?_⟩
  rcases h.1.2 with ⟨h1, h2⟩ | ⟨g, cap', cur, hv, hb, hg, hn, hm, hs, ht⟩
  · simp at h1; exact .inl ⟨h1.1, h1.2.1, h1.2.2⟩
  · simp at hv; obtain ⟨hv, rfl⟩ := hv
    exact .inr ⟨g, cur, hv, hb, hg, hn, hm, hs, ht⟩

theorem Own.rd {w : World} {e sz lo : Nat} {ad : Option Addr} {n cap : Nat} {cs : List Value} (h : Own w e sz lo ad n cap cs) : Rd w sz ad n cap cs := by
  obtain ⟨hl, hc⟩ := h.cases
  rcases hc with ⟨rfl, rfl, rfl⟩ | ⟨g, cur, rfl, hb, hg, hn, hm, hs, ht⟩
  · exact ⟨hl, Nat.le_refl _, Nat.zero_le _, fun _ => rfl, h.2, fun a ha => (by cases ha)⟩
  · refine ⟨hl, hn, hm, fun e => (by cases e), h.2, fun a ha j u hu => ?_⟩
    cases ha
    have hj : j < n * sz := by have := (List.getElem?_eq_some_iff.1 hu).1; omega
    rw [Addr.add_lit, Nat.zero_add, h.1.cellAt j hj]; exact hu

/-- what is owned stays owned where its block stays -/
theorem Own.keep {w w' : World} {e sz lo : Nat} {ad : Option Addr} {n cap : Nat} {cs : List Value} (h : Own w e sz lo ad n cap cs) (hb : ∀ g, ad = some ⟨g, 0, none⟩ → w'.heap[g]? = w.heap[g]?) : Own w' e sz lo ad n cap cs := by
  refine ⟨⟨h.1.1, ?_⟩, h.2⟩
  rcases h.1.2 with hn | ⟨g, cap', cur, hv, hb', hgg, rest⟩
  · exact .inl hn
  · have : ad = some ⟨g, 0, none⟩ := by simp at hv; exact hv.1
    exact .inr ⟨g, cap', cur, hv, hb', by rw [hb g this]; exact hgg, rest⟩

theorem Own.blk {w : World} {e sz lo : Nat} {ad : Option Addr} {n cap : Nat} {cs : List Value} (h : Own w e sz lo ad n cap cs) {g : Nat} (hg : ad = some ⟨g, 0, none⟩) : lo ≤ g ∧ g < w.heap.size := by
  obtain ⟨_, hc⟩ := h.cases
  rcases hc with ⟨rfl, _⟩ | ⟨g', cur, rfl, hb, hg', _⟩
  · cases hg
  · cases hg; exact ⟨hb, (Array.getElem?_eq_some_iff.1 hg').1⟩

theorem Own.below {w w' : World} {e sz lo : Nat} {ad : Option Addr} {n cap : Nat} {cs : List Value} (h : Own w e sz lo ad n cap cs) (hb : Below w.heap.size w w') : Own w' e sz lo ad n cap cs :=
  h.keep fun g hg => hb.block g (h.blk hg).2
theorem Own.alloc {w : World} {e sz lo : Nat} {ad : Option Addr} {n cap : Nat} {cs : List Value} (h : Own w e sz lo ad n cap cs) (o : Obj) : Own (w.alloc o) e sz lo ad n cap cs :=
  h.below ((Below.refl _ _).alloc (Nat.le_refl _) o)
theorem Own.drew {w : World} {e sz lo : Nat} {ad : Option Addr} {n cap : Nat} {cs : List Value} (h : Own w e sz lo ad n cap cs) : Own w.drew e sz lo ad n cap cs :=
  h.below ((Below.refl _ _).drew)
theorem Own.lower {w : World} {e sz lo lo' : Nat} {ad : Option Addr} {n cap : Nat} {cs : List Value} (h : Own w e sz lo ad n cap cs) (hl : lo' ≤ lo) : Own w e sz lo' ad n cap cs := by
  refine ⟨⟨h.1.1, ?_⟩, h.2⟩
  rcases h.1.2 with hn | ⟨g, cap', cur, hv, hb', rest⟩
  · exact .inl hn
  · exact .inr ⟨g, cap', cur, hv, by omega, rest⟩
theorem Own.nil (w : World) (e sz lo : Nat) : Own w e sz lo none 0 0 [] := ⟨World.ownsRow_nil _ _ _ _, by simp⟩

/-- an element of an owned row: what is there, that it may be written, what the world is behind a store -/
theorem Own.read {w : World} {e lo g n cap : Nat} {cs : List Value} (h : Own w e 1 lo (some ⟨g, 0, none⟩) n cap cs) {j : Nat} {u : Value} (hu : cs[j]? = some u) : w.cell? ⟨g, j, none⟩ = some u ∧ w.frozen? ⟨g, j, none⟩ = false := by
  have hj : j < n * 1 := by have := (List.getElem?_eq_some_iff.1 hu).1; have := h.1.1; omega
  exact ⟨(h.1.cellAt j hj).trans hu, h.1.frozenAt j⟩
theorem Own.set {w : World} {e lo g n cap : Nat} {cs : List Value} (h : Own w e 1 lo (some ⟨g, 0, none⟩) n cap cs) (j : Nat) (v : Value) (hv : v.oneCell' = true) : Own (w.setCell ⟨g, j, none⟩ v) e 1 lo (some ⟨g, 0, none⟩) n cap (cs.set j v) :=
  ⟨(h.1.stored j v).1, fun u hu => by
    rcases List.mem_or_eq_of_mem_set hu with h1 | h1
    · exact h.2 u h1
    · rw [h1]; exact hv⟩
theorem Own.setOther {w : World} {e sz lo : Nat} {ad : Option Addr} {n cap : Nat} {cs : List Value} (h : Own w e sz lo ad n cap cs) (p : Addr) (v : Value) (hne : ∀ g, ad = some ⟨g, 0, none⟩ → g ≠ p.block) : Own (w.setCell p v) e sz lo ad n cap cs :=
  h.keep fun g hg => Below.heap_setCell _ _ _ _ (hne g hg)
theorem Rd.setOther {w : World} {sz : Nat} {ad : Option Addr} {n cap : Nat} {cs : List Value} (h : Rd w sz ad n cap cs) (p : Addr) (v : Value) (hne : ∀ a, ad = some a → a.block ≠ p.block) : Rd (w.setCell p v) sz ad n cap cs :=
  h.keep fun a ha => Below.heap_setCell _ _ _ _ (hne a ha)

/-- the block of an owned slice, if it has one -/
def bOf (ad : Option Addr) : Option Nat := ad.map (·.block)

/-- another owned slice stays through a write to this one -/
theorem Own.other {w w' : World} {e sz lo : Nat} {ad : Option Addr} {n cap : Nat} {cs : List Value} (h : Own w e sz lo ad n cap cs) {row : Option Nat} (hg : w.grownBy w' row) (hne : ∀ g, ad = some ⟨g, 0, none⟩ → row ≠ some g) : Own w' e sz lo ad n cap cs :=
  h.keep fun g hgg => hg.block g (h.blk hgg).2 (fun e => hne g hgg e.symm)

theorem Own.grown {B : Nat} {a w w' : World} {e sz lo : Nat} {ad : Option Addr} {n cap : Nat} {cs : List Value} (h : Below B a w) (ho : Own w e sz lo ad n cap cs) (hg : w.grownBy w' (bOf ad)) (hB : B ≤ w.heap.size) (hlo : B ≤ lo) : Below B a w' :=
  h.grown hg hB (fun k hk => by
    obtain ⟨_, hc⟩ := ho.cases
    rcases hc with ⟨rfl, _⟩ | ⟨g, cur, rfl, hb, _⟩
    · cases hk
    · simp [bOf] at hk; omega)

theorem Below.grownO {B : Nat} {a w w' : World} {ad : Option Addr} (h : Below B a w) (hg : w.grownBy w' (bOf ad)) (hB : B ≤ w.heap.size) (hr : ∀ g, ad = some ⟨g, 0, none⟩ → B ≤ g) (hs : ∀ x, ad = some x → x = ⟨x.block, 0, none⟩) : Below B a w' :=
  h.grown hg hB (fun k hk => by
    cases ad with
    | none => cases hk
    | some x => simp [bOf] at hk; subst hk; exact hr _ (by rw [← hs x rfl]))

/-- one element type's row of the table -/
structure ElTy (P : Program) (t e : Nat) (z : Value) (sz bytes : Nat) : Prop where
  und : P.underlying t = some (.slice e)
  inf : ∃ i, P.info? e = some i ∧ i.zero = some z ∧ i.size = sz ∧ i.bytes = bytes
  zs : z.cells.size = sz
  pos : 0 < sz


section
variable {P : Program} {w : World} {ops : Array Oper} {rest : List Oper} {o : Oper} {a : Act} {Q : Exit → Act → World → Prop}

/-- an operation that is wanted (it has no guard, or its guard says yes) -/
theorem wpList_wanted (hw : Region.wanted o (yielded ops a.tmps) = true) (h : ∀ K : Act → World → Prop, (∀ a w, wpList P ops Q rest a w → K a w) → o.wp P a w K Q) : wpList P ops Q (o :: rest) a w :=
  wpList_step fun K hK => by rw [if_pos hw]; exact h K hK

/-- what 'append' onto an owned slice does -/
theorem run_app {t e : Nat} {z : Value} {sz bytes lo : Nat} (T : ElTy P t e z sz bytes) (ty : TypeId) {ad sd : Option Addr} {n cap m c : Nat} {xs ys : List Value}
    (hown : Own w e sz lo ad n cap xs) (hsrc : Rd w sz sd m c ys) (h63 : n + m ≤ maxLen) (hby : (n + m) * bytes ≤ 140737488355328) (hlo : lo ≤ w.heap.size) :
    ∃ ad' cap' w', (Builtin.append_ #[t, t] ty #[.slice ad n cap, .slice sd m c]).run P w = .ok (.slice ad' (n + m) cap') w' ∧ Own w' e sz lo ad' (n + m) cap' (xs ++ ys) ∧ w.grownBy w' (bOf ad) ∧
      (∀ g, ad' = some ⟨g, 0, none⟩ → ad = some ⟨g, 0, none⟩ ∨ w.heap.size ≤ g) := by
  obtain ⟨i, hi, hz, hsz, hbt⟩ := T.inf
  have h1' : ∀ u ∈ xs ++ ys, u.oneCell' = true := fun u hu => by
    rcases List.mem_append.1 hu with h | h
    · exact hown.2 u h
    · exact hsrc.one u h
  have hsmall : n + m ≤ 9223372036854775807 := by simp only [maxLen] at h63; omega
  cases sd with
  | none =>
    have hc := hsrc.nil rfl
    have hm : m = 0 := by have := hsrc.ncap; omega
    subst hc; subst hm
    have hys : ys = [] := List.eq_nil_of_length_eq_zero (by simpa using hsrc.len)
    subst hys
    refine ⟨ad, cap, w, run_append_owned_none (P := P) w lo t ty e i sz T.und hi _ n xs hown.1, by simpa using hown, World.grownBy.refl _ _, fun g hg => .inl hg⟩
  | some x =>
    obtain ⟨v', w', hr, h2, h3, _⟩ := run_append_own (P := P) w lo t ty e i z sz bytes T.und hi hz hsz hbt T.zs T.pos _ n xs hown.1 x m c ys hsrc.len (hsrc.cell x rfl) hsrc.one h63 hby hlo
    have hob : Value.ownBlock (.slice ad n cap) = bOf ad := by cases ad <;> rfl
    rw [hob] at h3
    have hshape : ∃ ad' cap', v' = .slice ad' (n + m) cap' := by
      rcases h2.2 with ⟨rfl, hn⟩ | ⟨g, cp, cur, rfl, _⟩
      · exact ⟨none, 0, by rw [hn]⟩
      · exact ⟨_, _, rfl⟩
    obtain ⟨ad', cap', rfl⟩ := hshape
    refine ⟨ad', cap', w', hr, ⟨h2, h1'⟩, h3, fun g hg => ?_⟩
    subst hg
    subst hsz
    obtain ⟨hl, hc⟩ := hown.cases
    rcases hc with ⟨rfl, rfl, rfl⟩ | ⟨g0, cur, rfl, hb, hgc, hn, hm, hs, ht⟩
    · by_cases hm0 : m = 0
      · subst hm0
        have hys : ys = [] := List.eq_nil_of_length_eq_zero (by simpa using hsrc.len)
        subst hys
        have : (Builtin.append_ #[t, t] ty #[.slice none 0 0, .slice (some x) 0 c]).run P w = .ok (.slice none 0 0) w := by
          simp [Builtin.append_, run_underlying T.und, sizeOf, typeInfo, hi, Builtin.lenOf, Builtin.firstCells, loadCells, loadCellsFrom]
        rw [this] at hr; simp at hr
      · subst hbt
        have := run_append_nil (P := P) w t ty e i z T.und hi hz x m c ys hsrc.len (hsrc.cell x rfl) (by omega) (by omega) (by simp only [Nat.zero_add] at hby; omega)
        rw [this] at hr; simp at hr; right; omega
    · by_cases hroom : n + m ≤ cap
      · have hfit : n * i.size + ys.length ≤ cur.size := by rw [hsrc.len, hs, ← Nat.add_mul]; exact Nat.mul_le_mul_right _ hroom
        have := run_append_room (P := P) w t ty e i T.und hi g0 n cap cur hgc x m c ys hsrc.len (hsrc.cell x rfl) hsrc.one hroom hfit
        rw [this] at hr; simp at hr; left; rw [hr.1.1]
      · subst hbt
        have holds : ∀ j u, xs[j]? = some u → w.cell? ((⟨g0, 0, none⟩ : Addr).add j) = some u := hown.1.cells (g := g0) rfl
        have := run_append_grow (P := P) w t ty e i z T.und hi hz ⟨g0, 0, none⟩ n cap xs hl holds x m c ys hsrc.len (hsrc.cell x rfl) (by omega) (by omega) (growslice_fits (by omega) hby)
        rw [this] at hr; simp at hr; right; omega

/-- 'append(out, src...)', out the call's own -/
theorem wpList_app (hgd : Region.wanted o (yielded ops a.tmps) = true) (s x : Operand) (t : TypeId) (ho : o.op = .call { callee := .builtin .append, args := #[s, x], argTypes := #[t, t] })
    {e : Nat} {z : Value} {sz bytes lo : Nat} (T : ElTy P t e z sz bytes) {ad sd : Option Addr} {n cap m c : Nat} {xs ys : List Value}
    (hs : a.eval s = .slice ad n cap) (hx : a.eval x = .slice sd m c) (hown : Own w e sz lo ad n cap xs) (hsrc : Rd w sz sd m c ys)
    (h63 : n + m ≤ maxLen) (hby : (n + m) * bytes ≤ 140737488355328) (hlo : lo ≤ w.heap.size)
    (h : ∀ ad' cap' w', Own w' e sz lo ad' (n + m) cap' (xs ++ ys) → w.grownBy w' (bOf ad) → (∀ g, ad' = some ⟨g, 0, none⟩ → ad = some ⟨g, 0, none⟩ ∨ w.heap.size ≤ g) →
      wpList P ops Q rest (a.put o.dst (.slice ad' (n + m) cap')) w') : wpList P ops Q (o :: rest) a w := by
  refine wpList_wanted hgd fun K hK => ?_
  obtain ⟨ad', cap', w', hr, h2, h3, h4⟩ := run_app (P := P) T o.type hown hsrc h63 hby hlo
  unfold Oper.wp execOp
  simp only [ho, resolve, invoke, builtin, Sem.run_bind, Sem.run_pure, Result.andThen_ok, List.map_toArray, List.map_cons, List.map_nil, hs, hx, hr]
  exact hK _ _ (h ad' cap' w' h2 h3 h4)

/-- a row just laid can be read -/
theorem Rd.row (w : World) (e sz n : Nat) (cs : List Value) (hl : cs.length = n * sz) (hn : n ≤ maxLen) (h1 : ∀ u ∈ cs, u.oneCell' = true) : Rd (w.alloc (.cells cs.toArray e)) sz (some ⟨w.heap.size, 0, none⟩) n n cs :=
  ⟨hl, Nat.le_refl _, hn, fun e => (by cases e), h1, fun a ha j u hu => by
    cases ha
    rw [Addr.add_lit, Nat.zero_add, World.cell?_alloc_new]; simpa using hu⟩

/-- likewise a row that bears a mark -/
theorem Rd.rowM (w : World) (e sz n : Nat) (fr : Nat × Nat) (cs : List Value) (hl : cs.length = n * sz) (hn : n ≤ maxLen) (h1 : ∀ u ∈ cs, u.oneCell' = true) : Rd (w.alloc (.cells cs.toArray e fr)) sz (some ⟨w.heap.size, 0, none⟩) n n cs :=
  ⟨hl, Nat.le_refl _, hn, fun e => (by cases e), h1, fun a ha j u hu => by
    cases ha
    rw [Addr.add_lit, Nat.zero_add, cell_of_row _ w.heap.size j cs.toArray e fr (heap_alloc_new w _)]; simpa using hu⟩

/-- 'append(out, x, y, ..)', out the call's own: they lie in the block that has just been laid -/
theorem wpList_pushes (hgd : Region.wanted o (yielded ops a.tmps) = true) (s x : Operand) (t : TypeId) (ho : o.op = .call { callee := .builtin .append, args := #[s, x], argTypes := #[t, t] })
    {e : Nat} {z : Value} {sz bytes lo : Nat} (T : ElTy P t e z sz bytes) {ad : Option Addr} {n cap m : Nat} {xs ys : List Value}
    (hs : a.eval s = .slice ad n cap) (hx : a.eval x = .slice (some ⟨w.heap.size, 0, none⟩) m m) (hown : Own w e sz lo ad n cap xs)
    (hl : ys.length = m * sz) (h1 : ∀ u ∈ ys, u.oneCell' = true)
    (h63 : n + m ≤ maxLen) (hby : (n + m) * bytes ≤ 140737488355328) (hlo : lo ≤ w.heap.size)
    (h : ∀ ad' cap' w', Own w' e sz lo ad' (n + m) cap' (xs ++ ys) → w.grownBy w' (bOf ad) → (∀ g, ad' = some ⟨g, 0, none⟩ → ad = some ⟨g, 0, none⟩ ∨ w.heap.size ≤ g) →
      wpList P ops Q rest (a.put o.dst (.slice ad' (n + m) cap')) w') : wpList P ops Q (o :: rest) a (w.alloc (.cells ys.toArray e)) :=
  wpList_app hgd s x t ho T hs hx (hown.alloc _) (Rd.row w e sz m ys hl (by omega) h1) h63 hby (by simp; omega) fun ad' cap' w' h2 h3 h4 =>
    h ad' cap' w' h2 ⟨h3.os, h3.tape, h3.output, Nat.le_trans (by simp) h3.size, fun k hk hr => (h3.block k (by simp; omega) hr).trans (Below.heap_alloc w _ k hk)⟩
      (fun g hg => by rcases h4 g hg with h | h
                      · exact .inl h
                      · right; simp at h; omega)

/-- 'append(out, x)', out the call's own: x lies in the block that has just been laid -/
theorem wpList_push (hgd : Region.wanted o (yielded ops a.tmps) = true) (s x : Operand) (t : TypeId) (ho : o.op = .call { callee := .builtin .append, args := #[s, x], argTypes := #[t, t] })
    {e : Nat} {z : Value} {sz bytes lo : Nat} (T : ElTy P t e z sz bytes) {ad : Option Addr} {n cap : Nat} {xs ys : List Value}
    (hs : a.eval s = .slice ad n cap) (hx : a.eval x = .slice (some ⟨w.heap.size, 0, none⟩) 1 1) (hown : Own w e sz lo ad n cap xs)
    (hl : ys.length = sz) (h1 : ∀ u ∈ ys, u.oneCell' = true)
    (h63 : n + 1 ≤ maxLen) (hby : (n + 1) * bytes ≤ 140737488355328) (hlo : lo ≤ w.heap.size)
    (h : ∀ ad' cap' w', Own w' e sz lo ad' (n + 1) cap' (xs ++ ys) → w.grownBy w' (bOf ad) → (∀ g, ad' = some ⟨g, 0, none⟩ → ad = some ⟨g, 0, none⟩ ∨ w.heap.size ≤ g) →
      wpList P ops Q rest (a.put o.dst (.slice ad' (n + 1) cap')) w') : wpList P ops Q (o :: rest) a (w.alloc (.cells ys.toArray e)) :=
  wpList_app hgd s x t ho T hs hx (hown.alloc _) (Rd.row w e sz 1 ys (by omega) (by decide) h1) h63 hby (by simp; omega) fun ad' cap' w' h2 h3 h4 =>
    h ad' cap' w' h2 ⟨h3.os, h3.tape, h3.output, Nat.le_trans (by simp) h3.size, fun k hk hr => (h3.block k (by simp; omega) hr).trans (Below.heap_alloc w _ k hk)⟩
      (fun g hg => by rcases h4 g hg with h | h
                      · exact .inl h
                      · right; simp at h; omega)

/-- an empty row just laid is owned -/
theorem Own.empty (w : World) (e sz : Nat) : Own (w.alloc (.cells #[] e)) e sz w.heap.size (some ⟨w.heap.size, 0, none⟩) 0 0 [] :=
  ⟨World.ownsRow_made w #[] 0 (Nat.le_refl _) (Nat.zero_le _) (by simp), by simp⟩

/-- 'append([]T{}, src...)': a copy -/
theorem wpList_clone (hgd : Region.wanted o (yielded ops a.tmps) = true) (s x : Operand) (t : TypeId) (ho : o.op = .call { callee := .builtin .append, args := #[s, x], argTypes := #[t, t] })
    {e : Nat} {z : Value} {sz bytes : Nat} (T : ElTy P t e z sz bytes) {sd : Option Addr} {m c : Nat} {ys : List Value}
    (hs : a.eval s = .slice (some ⟨w.heap.size, 0, none⟩) 0 0) (hx : a.eval x = .slice sd m c) (hsrc : Rd w sz sd m c ys)
    (h63 : m ≤ maxLen) (hby : m * bytes ≤ 140737488355328)
    (h : ∀ ad' cap' w', Own w' e sz w.heap.size ad' m cap' ys → Below w.heap.size w w' → w.heap.size < w'.heap.size → wpList P ops Q rest (a.put o.dst (.slice ad' m cap')) w') :
    wpList P ops Q (o :: rest) a (w.alloc (.cells #[] e)) := by
  refine wpList_app hgd s x t ho T hs hx (Own.empty w e sz) (hsrc.alloc _) (by omega) (by rw [Nat.zero_add]; exact hby) (by simp) fun ad' cap' w' h2 h3 _ => ?_
  simp only [Nat.zero_add, List.nil_append] at h2 ⊢
  have hs := h3.size
  simp at hs
  exact h ad' cap' w' h2 (((Below.refl _ w).alloc (Nat.le_refl _) _).grown h3 (by simp) (fun k hk => by simp [bOf] at hk; omega)) (by omega)

/-- 'make([]T, n)', T of one cell -/
theorem wpList_mk (hgd : Region.wanted o (yielded ops a.tmps) = true) (l c : Operand) (t : TypeId) (ho : o.op = .makeSlice t l c) {e : Nat} {z : Value} {bytes : Nat} (T : ElTy P t e z 1 bytes) (hz1 : z.cells = #[z]) (hzc : z.oneCell' = true) {kl kc : IntKind} {L C : Int} (n : Nat)
    (hl : a.eval l = .int kl L) (hc : a.eval c = .int kc C) (hL : L = (n : Int)) (hC : C = (n : Int)) (h63 : n ≤ maxLen) (hby : bytes * n ≤ 281474976710656)
    (h : ∀ w', Own w' e 1 w.heap.size (some ⟨w.heap.size, 0, none⟩) n n (List.replicate n z) → Below w.heap.size w w' → w'.heap.size = w.heap.size + 1 →
      wpList P ops Q rest (a.put o.dst (.slice (some ⟨w.heap.size, 0, none⟩) n n)) w') : wpList P ops Q (o :: rest) a w := by
  refine wpList_wanted hgd fun K hK => ?_
  obtain ⟨i, hi, hz, hsz, hbt⟩ := T.inf
  subst hL; subst hC; subst hbt
  have h63' : (n : Int) ≤ 9223372036854775807 := by
    have h := h63
    simp only [maxLen] at h
    omega
  have hb' : (i.bytes : Int) * (n : Int) ≤ 281474976710656 := by
    have h : ((i.bytes * n : Nat) : Int) ≤ 281474976710656 := by omega
    rwa [Int.natCast_mul] at h
  have hr := run_make (P := P) w t e i z T.und hi hz kl kc n n (by omega) (Int.le_refl _) hb' h63'
  simp only [Int.toNat_natCast, hsz, hz1, Nat.mul_one] at hr
  unfold Oper.wp execOp
  simp only [ho, hl, hc, Sem.run_bind, hr, Result.andThen_ok]
  refine hK _ _ (h _ ⟨?_, ?_⟩ ((Below.refl _ w).alloc (Nat.le_refl _) _) (by simp))
  · have := World.ownsRow_lit (e := e) (size := 1) (base := w.heap.size) w (madeCells #[z] n) n (Nat.le_refl _) h63 (by rw [size_madeCells]; omega)
    rw [toList_madeCells_one] at this; exact this
  · intro u hu; rw [List.eq_of_mem_replicate hu]; exact hzc

/-- the address of an element -/
theorem wpList_ix (hgd : Region.wanted o (yielded ops a.tmps) = true) (s i : Operand) (t : TypeId) (ho : o.op = .indexAddr t s i) {e : Nat} {z : Value} {sz bytes : Nat} (T : ElTy P t e z sz bytes) {ad : Option Addr} {n cap : Nat} {k : IntKind} {I : Int}
    (hs : a.eval s = .slice ad n cap) (hi : a.eval i = .int k I) (j : Nat) (hj : I = (j : Int)) (hlt : j < n) (hne : ad ≠ none)
    (h : wpList P ops Q rest (a.put o.dst (.pointer (some (sAt ad (j * sz))))) w) : wpList P ops Q (o :: rest) a w := by
  refine wpList_wanted hgd fun K hK => ?_
  obtain ⟨i0, hi0, _, hsz, _⟩ := T.inf
  cases ad with
  | none => exact absurd rfl hne
  | some x =>
    subst hj
    have hel : P.elem t = e := by simp [Program.elem, T.und]
    have hr := run_indexAt_slice (P := P) w t x n cap k (j : Int) (by rw [hel]; exact T.und)
    rw [if_pos ⟨by omega, by omega⟩] at hr
    simp only [hel, sizeOf, typeInfo, Sem.run_bind] at hr
    simp [hi0, hsz] at hr
    unfold Oper.wp execOp
    simp only [ho, hs, hi, Sem.run_bind, hr, Result.andThen_ok]
    exact hK _ _ h


/-- the address of an element of an array -/
theorem wpList_ixa (hgd : Region.wanted o (yielded ops a.tmps) = true) (s i : Operand) (t : TypeId) (ho : o.op = .indexAddr t s i) {e m sz : Nat} (hu : P.underlying t = some (.array m e)) (hsz : (P.info? e).map (·.size) = some sz) {x : Addr} {k : IntKind} {I : Int}
    (hs : a.eval s = .pointer (some x)) (hi : a.eval i = .int k I) (j : Nat) (hj : I = (j : Int)) (hlt : j < m)
    (h : wpList P ops Q rest (a.put o.dst (.pointer (some (x.add (j * sz))))) w) : wpList P ops Q (o :: rest) a w := by
  refine wpList_wanted hgd fun K hK => ?_
  subst hj
  have hel : P.elem t = e := by simp [Program.elem, hu]
  have hal : P.arrayLen t = m := by simp [Program.arrayLen, hu]
  have hr := run_indexAt_array (P := P) w t x k (j : Int) (by rw [hel, hal]; exact hu)
  rw [if_pos ⟨by omega, by omega⟩] at hr
  cases hq : P.info? e with
  | none => simp [hq] at hsz
  | some i0 =>
    have hsz' : i0.size = sz := by simpa [hq] using hsz
    simp only [hel, sizeOf, typeInfo, Sem.run_bind] at hr
    simp [hq, hsz'] at hr
    unfold Oper.wp execOp
    simp only [ho, hs, hi, Sem.run_bind, hr, Result.andThen_ok]
    exact hK _ _ h

/-- a store of one cell into a row -/
theorem wpList_st (hgd : Region.wanted o (yielded ops a.tmps) = true) (ty : TypeId) (x y : Operand) (ho : o.op = .store ty x y) (hsz : (P.info? ty).map (·.size) = some 1) {g j : Nat} {v : Value} (h1 : v.oneCell' = true)
    (hx : a.eval x = .pointer (some ⟨g, j, none⟩)) (hy : a.eval y = v) {t : TypeId} {cur : Array Value} (hg : w.heap[g]? = some (.cells cur t (0, 0))) (hj : j < cur.size)
    (h : wpList P ops Q rest (a.put o.dst undef) (w.setCell ⟨g, j, none⟩ v)) : wpList P ops Q (o :: rest) a w := by
  refine wpList_wanted hgd fun K hK => ?_
  have hc : w.cell? ⟨g, j, none⟩ = some cur[j] := by rw [cell_of_row w g j cur t (0, 0) hg]; simp [hj]
  have hf := frozen_of_row w g j cur t hg
  have hst : (store ⟨g, j, none⟩ v).run P w = .ok () (w.setCell ⟨g, j, none⟩ v) := by
    rw [run_store P w _ v _ h1, hc]; simp [hf]
  have hcells : v.cells = #[v] := by cases v <;> first | rfl | simp [Value.oneCell'] at h1
  cases hq : P.info? ty with
  | none => simp [hq] at hsz
  | some i0 =>
    have hsz' : i0.size = 1 := by simpa [hq] using hsz
    have hr : (storeVar ty ⟨g, j, none⟩ v).run P w = .ok () (w.setCell ⟨g, j, none⟩ v) := by
      simp [storeVar, sizeOf, typeInfo, hq, hsz', hcells, storeCells, Addr.add, hst]
    unfold Oper.wp execOp
    simp only [ho, hx, hy, Instr.storeAt, Instr.sureAddr, Sem.run_bind, Sem.run_pure, Result.andThen_ok, hr]
    exact hK _ _ h

/-- the walk's own rule for an index into a slice of whose address nothing is known but that there is one -/
@[go_sem low] theorem run_indexAt_opt (t : TypeId) (ad : Option Addr) (len cap : Nat) (k : IntKind) (i : Int) (h : P.underlying t = some (.slice (P.elem t))) (hne : ad ≠ none) :
    (Instr.indexAt t (.slice ad len cap) (.int k i)).run P w =
      if 0 ≤ i ∧ i < len then ((sizeOf (P.elem t)).run P w).andThen fun s w => .ok (.pointer (some (sAt ad (i.toNat * s)))) w
      else (boundsPanic k i len .index).run P w := by
  cases ad with
  | none => exact absurd rfl hne
  | some a => exact run_indexAt_slice (P := P) w t a len cap k i h

end

/-- bytes, as cells; one of them -/
def B8 (xs : List UInt8) : List Value := xs.map fun c => .int .u8 (c.toNat : Int)
def at8 (xs : List UInt8) (k : Nat) : UInt8 := xs.getD k 0
/-- integers, as cells; one of them -/
def I64 (xs : List Int) : List Value := xs.map fun c => .int .i64 c
def atI (xs : List Int) (k : Nat) : Int := xs.getD k 0

theorem B8_len (xs : List UInt8) : (B8 xs).length = xs.length := by simp [B8]
theorem I64_len (xs : List Int) : (I64 xs).length = xs.length := by simp [I64]
theorem B8_get (xs : List UInt8) (k : Nat) (h : k < xs.length) : (B8 xs)[k]? = some (.int .u8 ((at8 xs k).toNat : Int)) := by simp [B8, at8, h]
theorem I64_get (xs : List Int) (k : Nat) (h : k < xs.length) : (I64 xs)[k]? = some (.int .i64 (atI xs k)) := by simp [I64, atI, h]
theorem B8_one (xs : List UInt8) : ∀ u ∈ B8 xs, u.oneCell' = true := by
  intro u hu; obtain ⟨_, _, rfl⟩ := List.mem_map.1 hu; rfl
theorem I64_one (xs : List Int) : ∀ u ∈ I64 xs, u.oneCell' = true := by
  intro u hu; obtain ⟨_, _, rfl⟩ := List.mem_map.1 hu; rfl
theorem B8_app (xs ys : List UInt8) : B8 xs ++ B8 ys = B8 (xs ++ ys) := by simp [B8]
theorem I64_app (xs ys : List Int) : I64 xs ++ I64 ys = I64 (xs ++ ys) := by simp [I64]

section
variable {w : World} {ad : Option Addr} {n cap : Nat}
theorem Rd.len8 {xs : List UInt8} (h : Rd w 1 ad n cap (B8 xs)) : xs.length = n := by have := h.len; simpa [B8_len] using this
theorem Rd.lenI {xs : List Int} (h : Rd w 1 ad n cap (I64 xs)) : xs.length = n := by have := h.len; simpa [I64_len] using this
theorem Rd.get8 {xs : List UInt8} (h : Rd w 1 ad n cap (B8 xs)) {k : Nat} (hk : k < n) : ad ≠ none ∧ w.cell? (sAt ad k) = some (.int .u8 ((at8 xs k).toNat : Int)) :=
  ⟨h.ne (by omega), h.cellAt (B8_get xs k (by rw [h.len8]; exact hk))⟩
theorem Rd.getI {xs : List Int} (h : Rd w 1 ad n cap (I64 xs)) {k : Nat} (hk : k < n) : ad ≠ none ∧ w.cell? (sAt ad k) = some (.int .i64 (atI xs k)) :=
  ⟨h.ne (by omega), h.cellAt (I64_get xs k (by rw [h.lenI]; exact hk))⟩
end

/-- bytes as a text -/
def bstr (xs : List UInt8) : ByteArray := ⟨xs.toArray⟩
theorem run_str {P : Program} {src e dst : Nat} (hs : P.underlying src = some (.slice e)) (he : P.underlying e = some (.int .u8)) (hd : P.underlying dst = some .string)
    {w : World} {ad : Option Addr} {n cap : Nat} {xs : List UInt8} (h : Rd w 1 ad n cap (B8 xs)) :
    (convert src dst (.slice ad n cap)).run P w = .ok (.string (bstr xs)) w := by
  cases ad with
  | none =>
    have hc := h.nil rfl
    have hn := h.ncap
    have hl := h.len8
    have : xs = [] := List.eq_nil_of_length_eq_zero (by omega)
    subst this
    rw [run_convert_bytes_nil w src e hs he n cap dst hd]; rfl
  | some a =>
    have hl : (loadCells a n).run P w = .ok ((xs.map fun c => (c.toNat : Int)).map (Value.int .u8)).toArray w := by
      have := run_loadCells_list (P := P) w a (B8 xs) (h.cell a rfl)
      rw [B8_len, h.len8] at this
      rw [this]; simp [B8]
    rw [run_convert_bytes_string w src dst e _ n cap hs he hd, run_bytesToString w a n cap _ hl, foldl_push_bytes]
    have hf : ((fun n : Int => UInt8.ofNat n.toNat) ∘ fun c : UInt8 => (c.toNat : Int)) = id := funext fun c => by simp
    simp [bstr, ByteArray.empty, ByteArray.emptyWithCapacity, List.map_map]
    show [] ++ List.map _ xs = xs
    rw [hf]; simp

section
variable {P : Program} {w : World} {ops : Array Oper} {rest : List Oper} {o : Oper} {a : Act}

/-- a region that draws its order: reads and reckonings ahead, then a forced tail: walked in the text's order -/
theorem region_tail {id : Nat} {Q : Exit → Act → World → Prop} {l : List Oper} (n : Nat) (hm : P.follows .mixedOrders = true) (hB : Region.lexTailB .any l.toArray n = true)
    (h : wpStill P l.toArray w.drew (fun a' => wpList P l.toArray Q (l.drop n) a' w.drew) (l.take n) a) : (Code.region id l.toArray true).wp P Q a w :=
  wp_region_still_tail n hm hB h
theorem region_still {id : Nat} {Q : Exit → Act → World → Prop} {l : List Oper} (hm : P.follows .mixedOrders = true) (hB : Region.lexB .any l.toArray = true)
    (h : wpStill P l.toArray w.drew (fun a' => Q .normal a' w.drew) l a) : (Code.region id l.toArray true).wp P Q a w :=
  wp_region_still_lit hm hB h
/-- operations that yield a value and call nothing -/
def plainOp : Op → Bool
  | .move _ | .assign _ | .pick _ _ _ | .load _ _ | .binOp _ _ _ _ _ | .unOp _ _ _ | .convert _ _ _ | .indexAddr _ _ _ | .index _ _ _ | .field _ _ _ | .fieldAddr _ _ _ | .slice _ _ _ _ _ | .extract _ _ => true
  | .call c => match c.callee with
    | .builtin .len => true
    | _ => false
  | _ => false
theorem value_of (s : Sem Value) {x : Next} {w' : World} (h : (do let a ← s; pure (Next.value a) : Sem Next).run P w = .ok x w') : ∃ v, x = .value v := by
  rw [Sem.run_bind] at h
  cases hs : s.run P w with
  | ok a w1 => rw [hs] at h; simp at h; exact ⟨a, h.1.symm⟩
  | halt y w1 => rw [hs] at h; simp at h
theorem plain_value {ρ : Operand → Value} (hp : plainOp o.op = true) {x : Next} {w' : World} (h : (execOp ρ o).run P w = .ok x w') : ∃ v, x = .value v := by
  unfold execOp at h
  cases hq : o.op <;> rw [hq] at hp h <;> first
    | (simp [plainOp] at hp; done)
    | exact value_of _ h
    | (simp at h; exact ⟨_, h.1.symm⟩)
    | skip
  · rename_i c _ _
    rw [Sem.run_bind] at h
    cases hs : (asBool (ρ c)).run P w with
    | ok a w1 => rw [hs] at h; simp at h; exact ⟨_, h.1.symm⟩
    | halt y w1 => rw [hs] at h; simp at h
  · rename_i c
    simp only [plainOp] at hp
    cases hc : c.callee with
    | builtin b =>
      rw [hc] at hp
      cases b <;> first | (simp at hp; done) | skip
      obtain ⟨cs, hr⟩ : ∃ cs, (resolve ρ c o.type).run P w = .ok { target := .builtin .len c.argTypes o.type cs, args := c.args.map ρ } w := by
        unfold resolve; rw [hc]; exact ⟨_, rfl⟩
      rw [Sem.run_bind, hr] at h
      simp only [Result.andThen_ok] at h
      exact value_of (P := P) _ h
    | _ => rw [hc] at hp; simp at hp
/-- one operation of it, by the walk's own steps -/
theorem still_wp {Q : Act → Prop} (hw : Region.wanted o (yielded ops a.tmps) = true) (hp : plainOp o.op = true)
    (h : ∀ K : Act → World → Prop, (∀ a', wpStill P ops w Q rest a' → K a' w) → o.wp P a w K (fun _ _ _ => False)) : wpStill P ops w Q (o :: rest) a := by
  have h1 := h (fun a' w' => w' = w ∧ wpStill P ops w Q rest a') (fun _ h => ⟨rfl, h⟩)
  unfold wpStill
  rw [if_pos hw]
  unfold Oper.still
  unfold Oper.wp at h1
  cases hq : (execOp a.eval o).run P w with
  | halt x w' => rw [hq] at h1; cases x <;> exact h1.elim
  | ok x w' =>
    obtain ⟨v, rfl⟩ := plain_value hp hq
    rw [hq] at h1
    exact h1
theorem still_skip {Q : Act → Prop} (hw : Region.wanted o (yielded ops a.tmps) = false) (h : wpStill P ops w Q rest (a.put o.dst undef)) : wpStill P ops w Q (o :: rest) a := by
  unfold wpStill
  rw [if_neg (by rw [hw]; simp)]
  exact h
end

section
variable {P : Program} {w : World} {ops : Array Oper} {rest : List Oper} {o : Oper} {a : Act} {Q : Act → Prop}
/-- a still region's rest; no goal of it is ever laid open (with guarded operations that runs away) -/
structure Stl (P : Program) (ops : Array Oper) (w : World) (Q : Act → Prop) (l : List Oper) (a : Act) : Prop where
  out : wpStill P ops w Q l a
theorem stl_wp (hw : Region.wanted o (yielded ops a.tmps) = true) (hp : plainOp o.op = true)
    (h : ∀ K : Act → World → Prop, (∀ a', Stl P ops w Q rest a' → K a' w) → o.wp P a w K (fun _ _ _ => False)) : Stl P ops w Q (o :: rest) a :=
  ⟨still_wp hw hp fun K hK => h K fun a' h' => hK a' h'.out⟩
theorem stl_skip (hw : Region.wanted o (yielded ops a.tmps) = false) (h : Stl P ops w Q rest (a.put o.dst undef)) : Stl P ops w Q (o :: rest) a := ⟨still_skip hw h.out⟩
theorem stl_nil (h : Q a) : Stl P ops w Q [] a := ⟨wpStill_nil h⟩
theorem stl_region {id : Nat} {Q : Exit → Act → World → Prop} {l : List Oper} (hm : P.follows .mixedOrders = true) (hB : Region.lexB .any l.toArray = true)
    (h : Stl P l.toArray w.drew (fun a' => Q .normal a' w.drew) l a) : (Code.region id l.toArray true).wp P Q a w := region_still hm hB h.out
theorem stl_tail {id : Nat} {Q : Exit → Act → World → Prop} {l : List Oper} (n : Nat) (hm : P.follows .mixedOrders = true) (hB : Region.lexTailB .any l.toArray n = true)
    (h : Stl P l.toArray w.drew (fun a' => wpList P l.toArray Q (l.drop n) a' w.drew) (l.take n) a) : (Code.region id l.toArray true).wp P Q a w := region_tail n hm hB h.out
end
end Go.Proofs.Ytjjdckbdjmbndaa
