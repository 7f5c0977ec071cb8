/- front.mover: place; the mover itself; digits. -/
import Derived.Test.YtindbmfccgeikaaFroB
namespace Go.Proofs.Ytindbmfccgeikaa
set_option linter.unusedSimpArgs false
set_option linter.unusedVariables false
open Go.RowKit

theorem bytesOf_i8 (ys : List UInt8) : Lib.bytesOf (i8 ys) = ys := by
  simp [Lib.bytesOf, i8, Function.comp_def]
theorem indexByte_idx : ∀ (ys : List UInt8) (c : UInt8), c ∈ ys → Lib.indexByte ys c = ((ys.idxOf c : Nat) : Int)
  | [], c, h => by cases h
  | y :: t, c, h => by
    rw [Lib.indexByte, List.idxOf_cons]
    by_cases e : y == c
    · simp [e]
    · have hm : c ∈ t := by
        rcases List.mem_cons.1 h with h | h
        · exact absurd (by rw [h]; exact beq_self_eq_true _) e
        · exact h
      rw [if_neg e, indexByte_idx t c hm, if_neg (by simp)]
      simp [e]
/-- where a byte stands -/
def pos8 (ys : List UInt8) (c : UInt8) : Nat := ys.idxOf c
theorem pos8_lt {ys : List UInt8} {c : UInt8} (h : c ∈ ys) : pos8 ys c < ys.length := List.idxOf_lt_length_iff.2 h
theorem pos8_at {ys : List UInt8} {c : UInt8} (h : c ∈ ys) : at8 ys (pos8 ys c) = c := by
  have h1 := pos8_lt h
  simp only [at8, List.getD_eq_getElem?_getD, List.getElem?_eq_getElem h1, Option.getD_some]
  exact List.getElem_idxOf h1

set_option maxRecDepth 100000 in
set_option maxHeartbeats 2000000 in
theorem place_law (w : World) (L R g lo m cap : Nat) (ys : List UInt8) (c : UInt8) (hL : Boxed w L 22 (.slice (some ⟨g, 0, none⟩) m cap)) (hR : Boxed w R 47 (.func (.func 29) #[] #[.pointer (some ⟨L, 0, none⟩)])) (ho : Own w 5 1 lo (some ⟨g, 0, none⟩) m cap (B8 ys)) (hLg : L ≠ g) (hm : m ≤ 1000000) (hc : c ∈ ys) :
    Calls Try.prog 30 #[.int .u8 (c.toNat : Int), .pointer (some ⟨L, 0, none⟩), .pointer (some ⟨R, 0, none⟩)] w fun e w' => e = .returned (.int .i64 ((pos8 ys c : Nat) : Int)) ∧ Own w' 5 1 lo (some ⟨g, 0, none⟩) m cap (B8 (mvd ys (pos8 ys c))) ∧ w.grownBy w' (some g) := by
  have hl := ho.rd.len8
  have hk := pos8_lt hc
  have hi := indexByte_idx ys c hc
  change _ = ((pos8 ys c : Nat) : Int) at hi
  have hat := at_law w L g lo m cap (pos8 ys c) ys hL ho hLg (by omega) hm
  have hix := sh_bytes_IndexByte g 0 m cap (i8 ys) (c.toNat : Int) w (by simp [i8, hl]) (fun i hi' => by
    have := (ho.read (B8_get ys i (by omega))).1
    rw [Nat.zero_add, this]; simp [i8, at8, show i < ys.length by omega, List.getD_eq_getElem?_getD])
  rw [bytesOf_i8, show ((c.toNat : Int)).toNat.toUInt8 = c by simp, hi] at hix
  generalize pos8 ys c = k at *
  have c0 := hL.cell
  have c1 := hR.cell
  clear hL hR ho hi
  go_enter Try.func30, Try.ntmps30
  go_wp2_with (first
    | (go_at_call 31; refine hix.mono ?_; rintro e w1 ⟨rfl, rfl⟩)
    | (go_at_call 29; refine hat.mono ?_; rintro e w2 ⟨rfl, o2, g2⟩))
  go_ret
  exact ⟨rfl, o2, g2⟩

/-- the mover's blocks, with its list -/
structure Mov (w : World) (lo L R g m cap : Nat) (ys : List UInt8) : Prop where
  bL : Boxed w L 22 (.slice (some ⟨g, 0, none⟩) m cap)
  bR : Boxed w R 47 (.func (.func 29) #[] #[.pointer (some ⟨L, 0, none⟩)])
  ow : Own w 5 1 lo (some ⟨g, 0, none⟩) m cap (B8 ys)
  Lg : L ≠ g
  Rg : R ≠ g
  Llo : lo ≤ L
  Rlo : lo ≤ R
theorem Mov.below {w w' : World} {lo L R g m cap : Nat} {ys : List UInt8} (h : Mov w lo L R g m cap ys) (hb : Below w.heap.size w w') : Mov w' lo L R g m cap ys :=
  ⟨(hb.block _ h.bL.lt).trans h.bL, (hb.block _ h.bR.lt).trans h.bR, h.ow.below hb, h.Lg, h.Rg, h.Llo, h.Rlo⟩
theorem Mov.step {w w' : World} {lo L R g m cap : Nat} {ys zs : List UInt8} (h : Mov w lo L R g m cap ys) (ho : Own w' 5 1 lo (some ⟨g, 0, none⟩) m cap (B8 zs)) (hg : w.grownBy w' (some g)) : Mov w' lo L R g m cap zs :=
  ⟨(hg.block L h.bL.lt (fun e => h.Lg (by simpa using e))).trans h.bL, (hg.block R h.bR.lt (fun e => h.Rg (by simpa using e))).trans h.bR, ho, h.Lg, h.Rg, h.Llo, h.Rlo⟩
/-- another owned row stays, where the mover turns its list -/
theorem Mov.grown {B : Nat} {a w w' : World} {lo L R g m cap : Nat} {ys : List UInt8} (h : Mov w lo L R g m cap ys) (hb : Below B a w) (hg : w.grownBy w' (some g)) (hlo : B ≤ lo) (hB : B ≤ w.heap.size) : Below B a w' :=
  Own.grown hb h.ow hg hB hlo

theorem results_tmp_cell {fn : Func} {p u : Tmp} {ty : TypeId} {P : Program} {w : World} {tmps : Array Value} {ad : Addr} {v : Value} (h : fn.results = #[.tmp u, .cell p ty]) (hp : tmps.getD p undef = .pointer (some ad)) (hv : (loadVar ty ad).run P w = .ok v w) :
    (results fn tmps).run P w = .ok (.tuple #[tmps.getD u undef, v]) w := by
  have hp2 := hp
  simp at hp2
  simp only [results, h]
  simp [hp2, asAddr, hv]
theorem encB_map (xs : List UInt8) : (i8 xs).map (Value.int .u8) = B8 xs := encB_i8 xs
set_option maxRecDepth 100000 in
set_option maxHeartbeats 2000000 in
theorem mover_law (w : World) (a : Addr) (m cap : Nat) (us : List UInt8) (hb : Rd w 1 (some a) m cap (B8 us)) (hm2 : m ≤ 1000000) :
    Calls Try.prog 18 #[.slice (some a) m cap] w fun e w' => ∃ L R g c, e = .returned (.tuple #[.func (.func 30) #[] #[.pointer (some ⟨L, 0, none⟩), .pointer (some ⟨R, 0, none⟩)], .func (.func 29) #[] #[.pointer (some ⟨L, 0, none⟩)]]) ∧
      Mov w' w.heap.size L R g m c us ∧ Below w.heap.size w w' := by
  have hl := hb.len8
  have hz : ∀ w : World, (zeroValue 47).run Try.prog w = .ok .nilFunc w := fun w => by kernel_rfl
  have hz2 : ∀ w : World, (zeroValue 22).run Try.prog w = .ok (.slice none 0 0) w := fun w => by kernel_rfl
  have b1 : Below w.heap.size w (w.alloc (.cells #[.nilFunc] 47)) := (Below.refl _ w).alloc (Nat.le_refl _) _
  have hcl := sh_bytes_Clone_at a m cap (i8 us) (w.alloc (.cells #[.nilFunc] 47)) (by simp [i8, hl]) (by omega) (fun i hi => by
    have := (hb.below b1).cell a rfl i _ (B8_get us i (by omega))
    rw [this]; simp [i8, at8, show i < us.length by omega, List.getD_eq_getElem?_getD])
  go_enter Try.func18, Try.ntmps18
  go_wp2_with fail
  refine hcl.mono ?_
  rintro e w2 ⟨v', rfl, o2, hne, b2⟩
  have hs2 : w.heap.size + 1 ≤ w2.heap.size := by have := b2.size; simpa using this
  have b3 : Below w.heap.size w w2 := b1.trans (b2.mono b1.size)
  have hR0 : Boxed w2 w.heap.size 47 .nilFunc := (b2.block _ (by simp)).trans (Boxed.new w _ _)
  rw [encB_map] at o2
  obtain ⟨g, c, rfl, og⟩ : ∃ g c, v' = .slice (some ⟨g, 0, none⟩) m c ∧ Own w2 5 1 (w.heap.size + 1) (some ⟨g, 0, none⟩) m c (B8 us) := by
    have hsz : (w.alloc (.cells #[.nilFunc] 47)).heap.size = w.heap.size + 1 := by simp
    rw [hsz] at o2
    rcases o2.2 with ⟨rfl, h0⟩ | ⟨g, c, cur, rfl, h1, h2, h3, h4, h5, h6⟩
    · exact absurd rfl hne
    · exact ⟨g, c, rfl, o2, B8_one _⟩
  clear o2 hne b1 b2 hcl
  have hgl := og.blk rfl
  have bL := Boxed.new w2 22 (.slice (some ⟨g, 0, none⟩) m c)
  have bR := hR0.alloc (.cells #[.slice (some ⟨g, 0, none⟩) m c] 22)
  have og2 := og.alloc (.cells #[.slice (some ⟨g, 0, none⟩) m c] 22)
  have b4 := b3.alloc b3.size (.cells #[.slice (some ⟨g, 0, none⟩) m c] 22)
  have cR := hR0.cell
  have fR := hR0.frozen
  have cR2 := bR.cell
  have fR2 := bR.frozen
  go_upto_region 4 with fail
  have bL4 : Boxed ((w2.alloc (.cells #[.slice (some ⟨g, 0, none⟩) m c] 22)).setCell ⟨w.heap.size, 0, none⟩ (.func (.func 29) #[] #[.pointer (some ⟨w2.heap.size, 0, none⟩)])) w2.heap.size 22 (.slice (some ⟨g, 0, none⟩) m c) := bL.other (by omega) _
  have bR4 := bR.set (.func (.func 29) #[] #[.pointer (some ⟨w2.heap.size, 0, none⟩)])
  have og4 := og2.setOther ⟨w.heap.size, 0, none⟩ (.func (.func 29) #[] #[.pointer (some ⟨w2.heap.size, 0, none⟩)]) (fun x hx => by cases hx; simp; omega)
  have b5 := b4.setCell (p := ⟨w.heap.size, 0, none⟩) (Nat.le_refl _) (.func (.func 29) #[] #[.pointer (some ⟨w2.heap.size, 0, none⟩)])
  clear bL bR og2 b4 cR fR cR2 fR2 hR0 og b3
  generalize (w2.alloc (.cells #[.slice (some ⟨g, 0, none⟩) m c] 22)).setCell ⟨w.heap.size, 0, none⟩ (.func (.func 29) #[] #[.pointer (some ⟨w2.heap.size, 0, none⟩)]) = w5 at *
  have cR := bR4.cell
  have fR := bR4.frozen
  go_region
  all_goals go_wp2_with fail
  have hag := Try.isAgg47
  have cell9 : ((w5.setCell ⟨w.heap.size, 0, none⟩ (.func (.func 29) #[] #[.pointer (some ⟨w2.heap.size, 0, none⟩)])).drew).cell? ⟨w.heap.size, 0, none⟩ = some (.func (.func 29) #[] #[.pointer (some ⟨w2.heap.size, 0, none⟩)]) := (bR4.set _).cell
  refine bodyPost_ret (results_tmp_cell (v := .func (.func 29) #[] #[.pointer (some ⟨w2.heap.size, 0, none⟩)]) rfl rfl (by simp [loadVar, hag, go_sem, cell9])) rfl ?_
  refine ⟨w2.heap.size, w.heap.size, g, c, rfl, ⟨bL4.other (by omega) _, bR4.set _, ((og4.setOther ⟨w.heap.size, 0, none⟩ _ (fun x hx => by cases hx; simp; omega)).lower (by omega)).drew, by omega, by omega, by omega, Nat.le_refl _⟩, (b5.setCell (p := ⟨w.heap.size, 0, none⟩) (Nat.le_refl _) _).drew⟩
set_option maxRecDepth 100000 in
set_option maxHeartbeats 2000000 in
theorem mover_none (w : World) : Calls Try.prog 18 #[.slice none 0 0] w fun e w' => ∃ v1 v2, e = .returned (.tuple #[v1, v2]) ∧ Below w.heap.size w w' := by
  have hz : ∀ w : World, (zeroValue 47).run Try.prog w = .ok .nilFunc w := fun w => by kernel_rfl
  have hz2 : ∀ w : World, (zeroValue 22).run Try.prog w = .ok (.slice none 0 0) w := fun w => by kernel_rfl
  have hcl := sh_bytes_Clone_nil 0 0 (w.alloc (.cells #[.nilFunc] 47))
  have b4 := ((Below.refl _ w).alloc (Nat.le_refl _) (.cells #[.nilFunc] 47)).alloc (by simp) (.cells #[.slice none 0 0] 22)
  have bR := (Boxed.new w 47 .nilFunc).alloc (.cells #[.slice none 0 0] 22)
  have cR := bR.cell
  have fR := bR.frozen
  have cR0 := (Boxed.new w 47 .nilFunc).cell
  have fR0 := (Boxed.new w 47 .nilFunc).frozen
  go_enter Try.func18, Try.ntmps18
  go_wp2_with fail
  refine hcl.mono ?_
  rintro e w2 ⟨rfl, rfl⟩
  go_upto_region 4 with fail
  have bR4 := (Boxed.new w 47 (.func (.func 29) #[] #[.pointer (some ⟨w.heap.size + 1, 0, none⟩)])).alloc (.cells #[.slice none 0 0] 22)
  have b5 := ((Below.refl _ w).alloc (Nat.le_refl _) (.cells #[.func (.func 29) #[] #[.pointer (some ⟨w.heap.size + 1, 0, none⟩)]] 47)).alloc (by simp) (.cells #[.slice none 0 0] 22)
  clear b4 bR cR fR cR0 fR0
  generalize (w.alloc (.cells #[.func (.func 29) #[] #[.pointer (some ⟨w.heap.size + 1, 0, none⟩)]] 47)).alloc (.cells #[.slice none 0 0] 22) = w5 at *
  have cR := bR4.cell
  have fR := bR4.frozen
  go_region
  all_goals go_wp2_with fail
  have hag := Try.isAgg47
  have cell9 : ((w5.setCell ⟨w.heap.size, 0, none⟩ (.func (.func 29) #[] #[.pointer (some ⟨w.heap.size + 1, 0, none⟩)])).drew).cell? ⟨w.heap.size, 0, none⟩ = some (.func (.func 29) #[] #[.pointer (some ⟨w.heap.size + 1, 0, none⟩)]) := (bR4.set _).cell
  refine bodyPost_ret (results_tmp_cell (v := .func (.func 29) #[] #[.pointer (some ⟨w.heap.size + 1, 0, none⟩)]) rfl rfl (by simp [loadVar, hag, go_sem, cell9])) rfl ?_
  exact ⟨_, _, rfl, (b5.setCell (p := ⟨w.heap.size, 0, none⟩) (Nat.le_refl _) _).drew⟩
theorem Mov.app {w w' : World} {lo L R g m cap : Nat} {ys : List UInt8} {row : Option Nat} (h : Mov w lo L R g m cap ys) (hg : w.grownBy w' row) (hr : ∀ r, row = some r → r ≠ L ∧ r ≠ R ∧ r ≠ g) : Mov w' lo L R g m cap ys :=
  ⟨(hg.block L h.bL.lt (fun e => (hr L e.symm).1 rfl)).trans h.bL, (hg.block R h.bR.lt (fun e => (hr R e.symm).2.1 rfl)).trans h.bR, h.ow.other hg (fun x hx e => by cases hx; exact (hr g e).2.2 rfl), h.Lg, h.Rg, h.Llo, h.Rlo⟩
end Go.Proofs.Ytindbmfccgeikaa
