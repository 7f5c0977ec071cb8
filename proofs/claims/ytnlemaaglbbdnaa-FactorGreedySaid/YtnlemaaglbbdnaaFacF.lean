/- factor.Factor: the walk. -/
import Derived.Test.YtnlemaaglbbdnaaFacE
import Derived.Test.YtnlemaaglbbdnaaTokH
import Derived.Test.YtnlemaaglbbdnaaAppOld
namespace Go.Proofs.Ytnlemaaglbbdnaa
set_option linter.unusedSimpArgs false
set_option linter.unusedVariables false
open Go.RowKit Go.Shelf

theorem tT : ElTy Try.prog 23 31 (.agg #[.int .i64 0, .int .i64 0, .int .u8 0]) 3 24 := ⟨Try.underlying23, info_parts (by kernel_rfl), rfl, by decide⟩
theorem T3_snoc (ts : List Tok) (t : Tok) : T3 ts ++ [.int .i64 t.len, .int .i64 t.dist, .int .u8 (t.byte.toNat : Int)] = T3 (ts ++ [t]) := by simp [T3, tokC]

/-- the tokens of a text from a place on -/
def facF (b : List UInt8) (o : List Nat) (walk : Nat) : Nat → Nat → List Tok
  | 0, _ => []
  | f + 1, i => if i < b.length then (if 0 < (lng b o walk i).1 then ⟨(lng b o walk i).1, (lng b o walk i).2, 0⟩ :: facF b o walk f (i + (lng b o walk i).1) else ⟨0, 0, at8 b i⟩ :: facF b o walk f (i + 1)) else []
def facT (b : List UInt8) (o : List Nat) (walk i : Nat) : List Tok := facF b o walk (b.length - i) i
theorem facF_all (b : List UInt8) (o : List Nat) (walk : Nat) : ∀ f g i, b.length - i ≤ f → b.length - i ≤ g → facF b o walk f i = facF b o walk g i
  | 0, 0, i, _, _ => rfl
  | 0, g + 1, i, h, _ => by rw [facF, facF, if_neg (by omega)]
  | f + 1, 0, i, _, h => by rw [facF, facF, if_neg (by omega)]
  | f + 1, g + 1, i, h1, h2 => by
    rw [facF, facF]
    split
    · split
      · rw [facF_all b o walk f g _ (by omega) (by omega)]
      · rw [facF_all b o walk f g _ (by omega) (by omega)]
    · rfl
theorem facT_end (b : List UInt8) (o : List Nat) (walk i : Nat) (h : b.length ≤ i) : facT b o walk i = [] := by
  rw [facT, show b.length - i = 0 by omega]; rfl
theorem facT_rep (b : List UInt8) (o : List Nat) (walk i : Nat) (h : i < b.length) (hm : 0 < (lng b o walk i).1) : facT b o walk i = ⟨(lng b o walk i).1, (lng b o walk i).2, 0⟩ :: facT b o walk (i + (lng b o walk i).1) := by
  rw [facT, show b.length - i = (b.length - i - 1) + 1 by omega, facF, if_pos h, if_pos hm, facT]
  congr 1
  exact facF_all b o walk _ _ _ (by omega) (Nat.le_refl _)
theorem facT_lit (b : List UInt8) (o : List Nat) (walk i : Nat) (h : i < b.length) (hm : (lng b o walk i).1 = 0) : facT b o walk i = ⟨0, 0, at8 b i⟩ :: facT b o walk (i + 1) := by
  rw [facT, show b.length - i = (b.length - i - 1) + 1 by omega, facF, if_pos h, if_neg (by omega), facT]
  congr 1

theorem three_own (w : World) (t : TypeId) (a b c : Value) (ha : a.oneCell' = true) (hb : b.oneCell' = true) (hc : c.oneCell' = true) : Own (w.alloc (.cells #[a, b, c] t)) t 1 w.heap.size (some ⟨w.heap.size, 0, none⟩) 3 3 [a, b, c] :=
  ⟨⟨rfl, .inr ⟨w.heap.size, 3, #[a, b, c], rfl, Nat.le_refl _, heap_alloc_new w _, Nat.le_refl _, by decide, rfl, rfl⟩⟩, fun u hu => by simp at hu; rcases hu with rfl | rfl | rfl <;> assumption⟩
theorem bOf_ne {a : Option Addr} {T : Nat} (h : ∀ x, a = some x → x = ⟨x.block, 0, none⟩) (ht : ∀ g, a = some ⟨g, 0, none⟩ → g < T) : bOf a ≠ some T := fun e => by
  cases ha : a with
  | none => rw [ha] at e; simp [bOf] at e
  | some x =>
    have h1 := h x ha
    rw [ha] at e
    simp [bOf] at e
    have := ht x.block (by rw [ha]; exact congrArg some h1)
    omega
def FBad (n : Nat) (f k : Int) : Prop := f < 0 ∨ (n : Int) < f ∨ k < 0 ∨ 1048576 < k ∨ 98304 < n
set_option maxRecDepth 100000 in
set_option maxHeartbeats 4000000 in
theorem factor_bad (w : World) (ad : Option Addr) (n cap : Nat) (f k : Int) (h : FBad n f k) :
    Calls Try.prog 8 #[.slice ad n cap, .int .i64 f, .int .i64 k] w fun e w' => e = .returned (.tuple #[.slice none 0 0, .int .i64 5]) ∧ w = w' := by
  have h98 : ∀ {p : Prop}, 98304 < n → (98304 : Int) < (n : Int) := fun h => by omega
  by_cases h1 : f < 0
  · go_enter Try.func8, Try.ntmps8
    go_wp2
    refine bodyPost_ret (results_tmp2 rfl _ _ _) rfl ?_
    exact ⟨rfl, rfl⟩
  by_cases h2 : (n : Int) < f
  · go_enter Try.func8, Try.ntmps8
    go_wp2
    refine bodyPost_ret (results_tmp2 rfl _ _ _) rfl ?_
    exact ⟨rfl, rfl⟩
  by_cases h3 : k < 0
  · go_enter Try.func8, Try.ntmps8
    go_wp2
    refine bodyPost_ret (results_tmp2 rfl _ _ _) rfl ?_
    exact ⟨rfl, rfl⟩
  by_cases h4 : 1048576 < k
  · go_enter Try.func8, Try.ntmps8
    go_wp2
    refine bodyPost_ret (results_tmp2 rfl _ _ _) rfl ?_
    exact ⟨rfl, rfl⟩
  have h5 : 98304 < n := by unfold FBad at h; omega
  go_enter Try.func8, Try.ntmps8
  go_wp2
  refine bodyPost_ret (results_tmp2 rfl _ _ _) rfl ?_
  exact ⟨rfl, rfl⟩

set_option maxRecDepth 100000 in
set_option maxHeartbeats 4000000 in
theorem factor_law (w : World) (ad : Option Addr) (n cap : Nat) (b : List UInt8) (hb : Rd w 1 ad n cap (B8 b)) (hn : n ≤ 98304) (o : List Nat) (ho : Ordered b false o) (f : Nat) (hf : f ≤ n) (walk : Nat) (hw : walk ≤ 1048576) :
    Calls Try.prog 8 #[.slice ad n cap, .int .i64 (f : Int), .int .i64 (walk : Int)] w fun e w' => ∃ a c, e = .returned (.tuple #[.slice a (facT b o walk f).length c, .int .i64 0]) ∧ Own w' 31 3 w.heap.size a (facT b o walk f).length c (T3 (facT b o walk f)) ∧ Below w.heap.size w w' := by
  have hl := hb.len8
  obtain ⟨B, hB⟩ : ∃ B, w.heap.size = B := ⟨_, rfl⟩
  have HL := Lib.hid hl; clear hl
  have HO := Lib.hid ho; clear ho
  obtain ⟨Z, hZ⟩ : ∃ Z, facT b o walk f = Z := ⟨_, rfl⟩
  rw [hZ]
  have HZ := Lib.hid hZ; clear hZ
  go_enter Try.func8, Try.ntmps8
  go_wp2_with fail
  refine (indexed_law w ad n cap b hb (by omega) o HO.out).mono ?_
  rintro e w1 ⟨X, rfl, g1, g2, g3, g4, g5, pl, hX, hpl, b1⟩
  have HPL := Lib.hid hpl; clear hpl
  rw [hB] at b1
  go_wp2_with fail
  go_loopg [9, 10] (n - f) (fun k v9 v10 wr => ∃ (i : Nat) (ts : List Tok) (a : Option Addr) (c : Nat), f ≤ i ∧ i ≤ n ∧ n - i = k ∧ v9 = .slice a ts.length c ∧ v10 = .int .i64 (i : Int) ∧ ts.length ≤ i ∧ Hid (ts ++ facT b o walk i = Z) ∧ Below w1.heap.size w1 wr ∧ Own wr 31 3 w1.heap.size a ts.length c (T3 ts))
  case atStart => exact ⟨f, [], none, 0, Nat.le_refl _, hf, rfl, rfl, rfl, Nat.zero_le _, HZ, Below.refl _ _, Own.nil _ _ _ _⟩
  case round =>
    obtain ⟨i, ts, a, c, hfi, hin, rfl, rfl, rfl, hti, hts, bw, ow⟩ := hrel
    rename World => wr
    by_cases hlt : i < n
    · have hXr := hX.below bw
      have hbr := hXr.rb
      obtain ⟨ne, cb⟩ := hbr.get8 hlt
      go_upto_region 8 with fail
      obtain ⟨v, hv⟩ : ∃ v, at8 b i = v := ⟨_, rfl⟩
      rw [hv] at cb ⊢
      have HV := Lib.hid hv; clear hv
      have o3 := three_own wr 31 (.int .i64 0) (.int .i64 0) (.int .u8 (v.toNat : Int)) rfl rfl rfl
      have b2 := bw.alloc bw.size (.cells #[.int .i64 0, .int .i64 0, .int .u8 (v.toNat : Int)] 31)
      have ow2 := ow.alloc (.cells #[.int .i64 0, .int .i64 0, .int .u8 (v.toNat : Int)] 31)
      have hX2 := hX.below b2
      have hT2 : wr.heap.size < (wr.alloc (.cells #[.int .i64 0, .int .i64 0, .int .u8 (v.toNat : Int)] 31)).heap.size := by simp
      have howT : ∀ g, a = some ⟨g, 0, none⟩ → g < wr.heap.size := fun g hg => (ow.blk hg).2
      have hBW := bw.size
      clear ow hXr hbr ne cb bw
      generalize wr.alloc (.cells #[.int .i64 0, .int .i64 0, .int .u8 (v.toNat : Int)] 31) = w2 at *
      obtain ⟨T, hT⟩ : ∃ T, wr.heap.size = T := ⟨_, rfl⟩
      have hT1 : w1.heap.size ≤ T := by rw [← hT]; exact hBW
      rw [hT] at o3 hT2 howT ⊢
      clear hT
      have hrp := lng_rp HO.out walk (i := i) (by rw [HL.out]; exact hlt)
      have hrepT := facT_rep b o walk i (by rw [HL.out]; exact hlt)
      have hlitT := facT_lit b o walk i (by rw [HL.out]; exact hlt)
      have hll := longest_law w2 X n ad cap g1 g2 g3 g4 g5 b o pl hX2 (by omega) HO.out HL.out HPL.out i walk hlt hw
      generalize lng b o walk i = r at *
      obtain ⟨m, d⟩ := r
      dsimp only at hrp hrepT hlitT hll
      rw [HV.out] at hlitT
      by_cases hm : m = 0
      · have hst := hlitT hm
        subst hm
        clear hrepT hlitT hrp
        have HST := Lib.hid hst; clear hst
        go_upto_region 9 with fail
        refine hll.mono ?_
        rintro e w3 ⟨rfl, b3⟩
        have c3 := b2.trans (b3.mono b2.size)
        have ow3 := ow2.below b3
        have o33 := o3.below b3
        have e0 := (Own.read o33 (j := 0) rfl).1
        have e1 := (Own.read o33 (j := 1) rfl).1
        have e2 := (Own.read o33 (j := 2) rfl).1
        clear ow2 o3 b2 b3 hll
        go_upto_region 12 with (refine wpList_push rfl _ _ _ rfl tT rfl rfl ow3 (ys := [.int .i64 0, .int .i64 0, .int .u8 (v.toNat : Int)]) rfl (by simp [Value.oneCell']) (by unfold maxLen; omega) (by omega) c3.size ?_; intro a4 c4 w4 o4 gr4 n4)
        have p4 := o33.other gr4 (fun g hg => by cases hg; exact bOf_ne ow3.shape howT)
        have y0 := (Own.read p4 (j := 0) rfl).1
        have b4 := Own.grown c3 ow3 gr4 c3.size (Nat.le_refl _)
        rw [T3_snoc ts ⟨0, 0, v⟩] at o4
        clear p4 gr4 n4 ow3 o33 e0 e1 e2 howT
        go_wp2_with fail
        go_roundg (n - (i + 1))
        case measure => omega
        case rel => exact ⟨i + 1, ts ++ [⟨0, 0, v⟩], a4, c4, by omega, by omega, rfl, by simp, by simp, by simp; omega, Lib.hid (by rw [List.append_assoc, ← hts.out, HST.out]; rfl), b4, by simpa using o4⟩
      · have hst := hrepT (by omega)
        obtain ⟨m3, m258, d1, d32, di, mc⟩ := hrp.resolve_left hm
        have hin2 : i + m ≤ n := by
          have h1 := com_in b (i := i) (i - d) (by rw [HL.out]; omega)
          rw [com_comm, HL.out] at h1; omega
        clear hrepT hlitT hrp mc
        have HST := Lib.hid hst; clear hst
        have hm1 : ¬ (m : Int) < 1 := by omega
        have hm0 : (0 : Int) < (m : Int) := by omega
        go_upto_region 9 with fail
        refine hll.mono ?_
        rintro e w3 ⟨rfl, b3⟩
        have c3 := b2.trans (b3.mono b2.size)
        have ow3 := ow2.below b3
        have o33 := o3.below b3
        have e0 := (Own.read o33 (j := 0) rfl)
        have e1 := (Own.read o33 (j := 1) rfl)
        have e2 := (Own.read o33 (j := 2) rfl)
        have e0a := e0.1
        have e1a := e1.1
        have e2a := e2.1
        have e0b := e0.2
        have e1b := e1.2
        have e2b := e2.2
        clear ow2 o3 b2 b3 hll e0 e1 e2
        have s1 := o33.set 0 (.int .i64 (m : Int)) rfl
        have s2 := s1.set 1 (.int .i64 (d : Int)) rfl
        have s3 := s2.set 2 (.int .u8 0) rfl
        dsimp only [List.set] at s1 s2 s3
        have hTa : ∀ g, a = some ⟨g, 0, none⟩ → g ≠ T := fun g hg => by have := howT g hg; omega
        have ow4 := ((ow3.setOther ⟨T, 0, none⟩ (.int .i64 (m : Int)) hTa).setOther ⟨T, 1, none⟩ (.int .i64 (d : Int)) hTa).setOther ⟨T, 2, none⟩ (.int .u8 0) hTa
        have c4' := ((c3.setCell (p := ⟨T, 0, none⟩) hT1 (.int .i64 (m : Int))).setCell (p := ⟨T, 1, none⟩) hT1 (.int .i64 (d : Int))).setCell (p := ⟨T, 2, none⟩) hT1 (.int .u8 0)
        clear s1 s2 c3 ow3 o33
        go_upto_region 11 with fail
        clear e0a e1a e2a e0b e1b e2b
        generalize ((w3.setCell ⟨T, 0, none⟩ (.int .i64 (m : Int))).setCell ⟨T, 1, none⟩ (.int .i64 (d : Int))).setCell ⟨T, 2, none⟩ (.int .u8 0) = w5 at *
        have e0 := (Own.read s3 (j := 0) rfl).1
        have e1 := (Own.read s3 (j := 1) rfl).1
        have e2 := (Own.read s3 (j := 2) rfl).1
        go_upto_region 12 with (refine wpList_push rfl _ _ _ rfl tT rfl rfl ow4 (ys := [.int .i64 (m : Int), .int .i64 (d : Int), .int .u8 0]) rfl (by simp [Value.oneCell']) (by unfold maxLen; omega) (by omega) c4'.size ?_; intro a4 c4 w4 o4 gr4 n4)
        have p4 := s3.other gr4 (fun g hg => by cases hg; exact bOf_ne ow4.shape howT)
        have y0 := (Own.read p4 (j := 0) rfl).1
        have b4 := Own.grown c4' ow4 gr4 c4'.size (Nat.le_refl _)
        rw [show T3 ts ++ [.int .i64 (m : Int), .int .i64 (d : Int), .int .u8 0] = T3 (ts ++ [⟨m, d, 0⟩]) from T3_snoc ts ⟨m, d, 0⟩] at o4
        clear p4 gr4 n4 ow4 s3 e0 e1 e2 howT hTa
        go_wp2_with fail
        go_roundg (n - (i + m))
        case measure => omega
        case rel => exact ⟨i + m, ts ++ [⟨m, d, 0⟩], a4, c4, by omega, by omega, rfl, by simp, by simp, by simp; omega, Lib.hid (by rw [List.append_assoc, ← hts.out, HST.out]; rfl), b4, by simpa using o4⟩
    · obtain rfl : i = n := by omega
      have hts2 := hts.out
      rw [facT_end b o walk i (by rw [HL.out]; exact Nat.le_refl _), List.append_nil] at hts2
      subst hts2
      go_wp2_with fail
      refine bodyPost_ret (results_tmp2 rfl _ _ _) rfl ?_
      exact ⟨a, c, rfl, by rw [hB]; exact ow.lower (by have := b1.size; omega), by rw [hB]; exact b1.trans (bw.mono (by have := b1.size; omega))⟩
end Go.Proofs.Ytnlemaaglbbdnaa
