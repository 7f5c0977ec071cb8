/- sufsort.sorted: the walk. -/
import Derived.Test.YtjjdckbdjmbndaaSufF
import Derived.Laws.MakeOwn
namespace Go.Proofs.Ytjjdckbdjmbndaa
set_option linter.unusedSimpArgs false
set_option linter.unusedVariables false
open Go.RowKit

/-- a row just made -/
theorem ownRow {w : World} {g n : Nat} (hg : w.heap[g]? = some (.cells (madeCells #[.int .i64 0] n) 3 (0, 0))) (lo : Nat) (hlo : lo ≤ g) (hn : n ≤ maxLen) : Own w 3 1 lo (some ⟨g, 0, none⟩) n n (N64 (List.replicate n 0)) := by
  rw [← N64_zeros]
  refine ⟨⟨by simp, .inr ⟨g, n, madeCells #[.int .i64 0] n, rfl, hlo, hg, Nat.le_refl _, hn, by rw [size_madeCells]; simp, ?_⟩⟩, fun u hu => by rw [List.eq_of_mem_replicate hu]; rfl⟩
  rw [toList_madeCells_one]; simp

theorem alloc_at {W : World} {o : Obj} {g : Nat} (h : g = W.heap.size) : (W.alloc o).heap[g]? = some o := by subst h; exact World.alloc_heap_new W _
theorem alloc_old {W : World} {o v : Obj} {g : Nat} (h : W.heap[g]? = some v) : (W.alloc o).heap[g]? = some v := (Below.heap_alloc W o g (Array.getElem?_eq_some_iff.1 h).1).trans h
theorem four (w : World) (o0 o1 o2 o3 : Obj) : ((((w.alloc o0).alloc o1).alloc o2).alloc o3).drew.heap[w.heap.size]? = some o0 ∧ ((((w.alloc o0).alloc o1).alloc o2).alloc o3).drew.heap[w.heap.size + 1]? = some o1 ∧
    ((((w.alloc o0).alloc o1).alloc o2).alloc o3).drew.heap[w.heap.size + 1 + 1]? = some o2 ∧ ((((w.alloc o0).alloc o1).alloc o2).alloc o3).drew.heap[w.heap.size + 1 + 1 + 1]? = some o3 ∧
    ((((w.alloc o0).alloc o1).alloc o2).alloc o3).drew.heap.size = w.heap.size + 4 ∧ Below w.heap.size w ((((w.alloc o0).alloc o1).alloc o2).alloc o3).drew := by
  refine ⟨alloc_old (alloc_old (alloc_old (alloc_at rfl))), alloc_old (alloc_old (alloc_at (by simp))), alloc_old (alloc_at (by simp)), alloc_at (by simp), by simp, ((((((Below.refl _ w).alloc (Nat.le_refl _) _).alloc (by simp) _).alloc (by simp; omega) _).alloc (by simp; omega) _).drew)⟩

/-- the state at the head of a round -/
structure Rnd (w wr : World) (B A T Kb g R n nf k : Nat) (lb : Array Value) (sym : Nat → Nat → Nat) (o rk : List Nat) : Prop where
  below : Below B w wr
  pA : Own wr 3 1 (B + 1) (some ⟨A, 0, none⟩) n n (N64 (List.range n))
  pg : Own wr 3 1 (B + 1) (some ⟨g, 0, none⟩) n n (N64 o)
  pR : Own wr 3 1 (B + 1) (some ⟨R, 0, none⟩) n n (N64 rk)
  pT : Boxed wr T 34 (.slice (some ⟨R, 0, none⟩) n n)
  pB : Boxed wr B 42 (.func (.func nf) #[] lb)
  pK : Boxed wr Kb 3 (.int .i64 (k : Int))
  ord : OrdOk n sym k o
  rok : RankOk n sym k (atN rk)
  rle : ∀ i, i < n → atN rk i ≤ max 256 n
  k1 : 1 ≤ k
  k2 : k ≤ 400000
  tA : T ≠ A
  tg : T ≠ g
  tB : B < T
  tK : T ≠ Kb
  tR : T ≠ R

set_option maxRecDepth 100000 in
set_option maxHeartbeats 4000000 in
theorem sorted_law (w : World) (ad : Option Addr) (n cap : Nat) (b : List UInt8) (nf : Nat) (lb : Array Value) (nx : Nat → Nat → Option Nat) (sym : Nat → Nat → Nat)
    (hb : Rd w 1 ad n cap (B8 b)) (hn : n ≤ 100000) (hnx : NextOf w nf lb nx n) (hx : Nx n sym nx) (hs0 : ∀ i, i < n → sym i 0 = (at8 b i).toNat + 1)
    (eg : ∀ args w, (callFunc nf args).run Try.prog w = .ok (.enter nf args) w) :
    Calls Try.prog 20 #[.slice ad n cap, .func (.func nf) #[] lb] w fun e w' =>
      ∃ g o k, e = .returned (.slice (some ⟨g, 0, none⟩) n n) ∧ Own w' 3 1 w.heap.size (some ⟨g, 0, none⟩) n n (N64 o) ∧ OrdOk n sym k o ∧ 2 * n ≤ k ∧ Below w.heap.size w w' := by
  have hlen := hb.len8
  have HL := Lib.hid hlen; clear hlen
  have HNX := Lib.hid hnx; clear hnx
  have HX := Lib.hid hx; clear hx
  have HS0 := Lib.hid hs0; clear hs0
  have hmk : ∀ W : World, (Instr.makeSlice 34 (.int .i64 (n : Int)) (.int .i64 (n : Int))).run Try.prog W = .ok (.slice (some ⟨W.heap.size, 0, none⟩) n n) (W.alloc (.cells (madeCells #[.int .i64 0] n) 3)) := fun W => by
    obtain ⟨i, hi, hz, hsz, hbt⟩ := tI.inf
    have h := run_make (P := Try.prog) W 34 3 i (.int .i64 0) tI.und hi hz .i64 .i64 n n (by omega) (Int.le_refl _) (by rw [hbt]; omega) (by omega)
    simpa [hsz, Value.cells] using h
  have hn63 : n ≤ maxLen := by unfold maxLen; omega
  have HN63 := Lib.hid hn63; clear hn63
  go_enter Try.func20, Try.ntmps20
  obtain ⟨B, hB⟩ : ∃ B, w.heap.size = B := ⟨_, rfl⟩
  have HB := Lib.hid hB; clear hB
  go_upto_region 2 with fail
  rw [HB.out]
  go_cut [6, 7] (fun x t wx => ∃ A R T : Nat, x = .slice (some ⟨A, 0, none⟩) n n ∧ t = .pointer (some ⟨T, 0, none⟩) ∧ B + 1 ≤ A ∧ B + 1 ≤ R ∧ B + 1 ≤ T ∧ A ≠ R ∧ A ≠ T ∧ R ≠ T ∧ Below B w wx ∧ wx.heap.size = B + 4 ∧
    wx.heap[A]? = some (.cells (madeCells #[.int .i64 0] n) 3 (0, 0)) ∧ wx.heap[R]? = some (.cells (madeCells #[.int .i64 0] n) 3 (0, 0)) ∧ Boxed wx T 34 (.slice (some ⟨R, 0, none⟩) n n) ∧ Boxed wx B 42 (.func (.func nf) #[] lb))
  case first =>
    have hB := HB.out
    clear HB
    subst hB
    go_region
    all_goals (go_wp2_with fail)
    all_goals
      go_meet
      obtain ⟨h0, h1, h2, h3, h4, h5⟩ := four w _ _ _ _
      first
        | exact ⟨w.heap.size + 1, w.heap.size + 1 + 1, w.heap.size + 1 + 1 + 1, rfl, rfl, by omega, by omega, by omega, by omega, by omega, by omega, h5, h4, h1, h2, h3, h0⟩
        | exact ⟨w.heap.size + 1, w.heap.size + 1 + 1 + 1, w.heap.size + 1 + 1, rfl, rfl, by omega, by omega, by omega, by omega, by omega, by omega, h5, h4, h1, h3, h2, h0⟩
        | exact ⟨w.heap.size + 1 + 1, w.heap.size + 1, w.heap.size + 1 + 1 + 1, rfl, rfl, by omega, by omega, by omega, by omega, by omega, by omega, h5, h4, h2, h1, h3, h0⟩
        | exact ⟨w.heap.size + 1 + 1, w.heap.size + 1 + 1 + 1, w.heap.size + 1, rfl, rfl, by omega, by omega, by omega, by omega, by omega, by omega, h5, h4, h2, h3, h1, h0⟩
        | exact ⟨w.heap.size + 1 + 1 + 1, w.heap.size + 1, w.heap.size + 1 + 1, rfl, rfl, by omega, by omega, by omega, by omega, by omega, by omega, h5, h4, h3, h1, h2, h0⟩
        | exact ⟨w.heap.size + 1 + 1 + 1, w.heap.size + 1 + 1, w.heap.size + 1, rfl, rfl, by omega, by omega, by omega, by omega, by omega, by omega, h5, h4, h3, h2, h1, h0⟩
  case rest =>
    obtain ⟨A, R, T, rfl, rfl, hA, hR, hT, hAR, hAT, hRT, hbx, hsz, qA, qR, qT, qB⟩ := hcut
    rename World => w1
    have hBn : B < B + 1 := Nat.lt_succ_self _
    have oA := ownRow qA (B + 1) hA HN63.out
    have oR := ownRow qR (B + 1) hR HN63.out
    clear qA qR
    go_wp2_with fail
    go_loopg [25] n (fun k i wr => ∃ j : Nat, j ≤ n ∧ k = n - j ∧ i = .int .i64 j ∧ Below B w wr ∧ Hid (wr.heap.size = B + 4) ∧ Own wr 3 1 (B + 1) (some ⟨A, 0, none⟩) n n (N64 (rowN (fun p => if p < j then p else 0) n)) ∧
      Own wr 3 1 (B + 1) (some ⟨R, 0, none⟩) n n (N64 (rowN (fun p => if p < j then (at8 b p).toNat + 1 else 0) n)) ∧ Boxed wr T 34 (.slice (some ⟨R, 0, none⟩) n n) ∧ Boxed wr B 42 (.func (.func nf) #[] lb))
    case atStart =>
      have e : ∀ f : Nat → Nat, List.replicate n 0 = rowN (fun p => if p < 0 then f p else 0) n := fun f => by
        apply atN_ext (by simp [rowN_len])
        intro j hj
        simp at hj
        rw [atN_row _ _ _ hj]
        simp [atN, hj]
      exact ⟨0, Nat.zero_le _, by simp, rfl, hbx, Lib.hid hsz, by rw [← e (fun p => p)]; exact oA, by rw [← e (fun p => (at8 b p).toNat + 1)]; exact oR, qT, qB⟩
    case round =>
      obtain ⟨j, hj, rfl, rfl, hbr, hsz1, pA, pR, pT, pB⟩ := hrel
      rename World => wr
      by_cases hlt : j < n
      · have hbw : Below w.heap.size w wr := by rw [HB.out]; exact hbr
        obtain ⟨nx1, cx⟩ := (hb.below hbw).get8 hlt
        obtain ⟨c, hc⟩ : ∃ c, (at8 b j).toNat = c := ⟨_, rfl⟩
        have hc256 : c < 256 := by rw [← hc]; exact UInt8.toNat_lt _
        rw [hc] at cx
        have HC := Lib.hid hc; clear hc
        have cT := pT.cell
        obtain ⟨cA, fA⟩ := pA.getN hlt
        obtain ⟨cR, fR⟩ := pR.getN hlt
        have hTA : ¬ T = A := by omega
        have hRA : ¬ R = A := by omega
        have hTR : ¬ T = R := by omega
        go_upto_region 6 with fail
        go_region
        go_wp2_with fail
        go_roundg (n - (j + 1))
        case measure => omega
        case rel =>
          have hA0 := pA.setN j j
          have hA1 := hA0.setOther ⟨R, j, none⟩ (.int .i64 ((c : Int) + 1)) (fun g hg => by simp at hg ⊢; omega)
          have hR0 := pR.setOther ⟨A, j, none⟩ (.int .i64 (j : Int)) (fun g hg => by simp at hg ⊢; omega)
          have hR1 := hR0.setN j (c + 1)
          rw [rowN_set _ (fun p => if p < j + 1 then p else 0) _ _ _ (fun k hk => by
            by_cases h : k = j
            · subst h; simp
            · by_cases h' : k < j
              · simp [h, h', Nat.lt_succ_of_lt h']
              · have : ¬ k < j + 1 := by omega
                simp [h, h', this])] at hA1
          rw [rowN_set _ (fun p => if p < j + 1 then (at8 b p).toNat + 1 else 0) _ _ _ (fun k hk => by
            by_cases h : k = j
            · subst h; simp [HC.out]
            · by_cases h' : k < j
              · simp [h, h', Nat.lt_succ_of_lt h']
              · have : ¬ k < j + 1 := by omega
                simp [h, h', this])] at hR1
          have e1 : ((c : Int) + 1) = ((c + 1 : Nat) : Int) := by omega
          refine ⟨j + 1, by omega, rfl, by simp, ((hbr.setCell (by simp; omega) _).setCell (by simp; omega) _).drew, ?_, ?_, ?_, ?_, ?_⟩
          · have := hsz1.out
            exact Lib.hid (by simpa using this)
          · exact hA1.drew
          · rw [e1]; exact hR1.drew
          · exact ((Below.heap_setCell _ _ _ T (by simp; omega)).trans (Below.heap_setCell _ _ _ T (by simp; omega))).trans pT
          · exact ((Below.heap_setCell _ _ _ B (by simp; omega)).trans (Below.heap_setCell _ _ _ B (by simp; omega))).trans pB
      · obtain rfl : n = j := by omega
        rw [rowN_congr (fun p => if p < n then p else 0) (fun p => p) n (fun k hk => by simp [hk])] at pA
        rw [rowN_congr (fun p => if p < n then (at8 b p).toNat + 1 else 0) (fun p => (at8 b p).toNat + 1) n (fun k hk => by simp [hk])] at pR
        rw [show rowN (fun p => p) n = List.range n by simp [rowN]] at pA
        clear oA oR qT qB hbx
        have hbw : Below w.heap.size w wr := by rw [HB.out]; exact hbr
        have r0lt : ∀ i, i < n → (at8 b i).toNat + 1 ≤ 256 := fun i _ => by have := UInt8.toNat_lt (at8 b i); omega
        have rk0 : RankOk n sym 1 (fun i => (at8 b i).toNat + 1) := ⟨fun i j hi hj h => ⟨0, by omega, fun s hs => by omega, by rw [HS0.out i hi, HS0.out j hj]; exact h⟩,
          fun i j hi hj h s hs => by
            have : s = 0 := by omega
            subst this; rw [HS0.out i hi, HS0.out j hj]; exact h, fun i hi => by simp⟩
        have ord0 := first_order rk0 256 r0lt
        have hkey := key1_env (r := fun i => (at8 b i).toNat + 1) pT.cell (fun j hj => by
          have := (pR.getN hj).1
          rwa [atN_row _ _ _ hj] at this) (List.range n) (fun i hi => List.mem_range.1 hi)
        have RK0 := Lib.hid rk0; clear rk0
        have R0 := Lib.hid r0lt; clear r0lt
        have ORD0 := Lib.hid ord0; clear ord0
        have HKEY := Lib.hid hkey; clear hkey
        have rA := pA.rd
        clear hlt hj hA hR
        go_wp2_with fail
        refine (counted_law wr _ n n (List.range n) 256 _ _ _ rA hn (by omega) (fun i hi => R0.out i (List.mem_range.1 hi)) HKEY.out (fun args w => rfl)).mono ?_
        rintro e w2 ⟨g, rfl, og, b2⟩
        go_wp2_with fail
        have hsw2 : wr.heap.size ≤ w2.heap.size := b2.size
        have hst : Rnd w (w2.alloc (.cells #[.int .i64 1] 3)) B A T w2.heap.size g R n nf 1 lb sym (csort (fun i => (at8 b i).toNat + 1) (List.range n) (256 + 1)) (rowN (fun p => (at8 b p).toNat + 1) n) := by
          have hT2 := pT.lt
          have hTA : T ≠ A := Ne.symm hAT
          have hTR : T ≠ R := Ne.symm hRT
          have hBR := (pR.blk rfl).2
          have hBwr : B ≤ wr.heap.size := Nat.le_of_lt pB.lt
          have gb := og.blk rfl
          exact ⟨(hbr.trans (b2.mono hBwr)).alloc (by omega) _, (pA.below b2).alloc _, (og.lower (by have := pB.lt; omega)).alloc _, (pR.below b2).alloc _, (show Boxed w2 T _ _ from (b2.block T hT2).trans pT).alloc _,
            (show Boxed w2 B _ _ from (b2.block B pB.lt).trans pB).alloc _, Boxed.new _ _ _, ORD0.out, by
              refine ⟨fun i j hi hj h => RK0.out.lt i j hi hj ?_, fun i j hi hj h => RK0.out.eq i j hi hj ?_, fun i hi => ?_⟩
              · rwa [atN_row _ _ _ hi, atN_row _ _ _ hj] at h
              · rwa [atN_row _ _ _ hi, atN_row _ _ _ hj] at h
              · rw [atN_row _ _ _ hi]; exact RK0.out.pos i hi, fun i hi => by rw [atN_row _ _ _ hi]; have := R0.out i hi; omega, Nat.le_refl _, by omega, hTA, by omega, by omega, by omega, hTR⟩
        clear og b2 pA pR pT pB HKEY rA hbr hbw hsz1 RK0 ORD0 R0 hAR hAT hRT
        have hst0 := Lib.hid hst; clear hst
        go_loopg [10, 11] (2 * n - 1) (fun kk x y wq => ∃ (k Kb g R : Nat) (o rk : List Nat), kk = 2 * n - k ∧ x = .slice (some ⟨g, 0, none⟩) n n ∧ y = .pointer (some ⟨Kb, 0, none⟩) ∧ Rnd w wq B A T Kb g R n nf k lb sym o rk)
        case atStart => exact ⟨1, _, _, _, _, _, rfl, rfl, rfl, hst0.out⟩
        case round =>
          clear hst0
          obtain ⟨k, Kb, g, R, o, rk, rfl, rfl, rfl, hst⟩ := hrel
          rename World => wq
          have hk1 := hst.k1
          have hk2 := hst.k2
          have cK := hst.pK.cell
          by_cases hlt : k < 2 * n
          · have hbw : Below w.heap.size w wq := by rw [HB.out]; exact hst.below
            have cT := hst.pT.cell
            have cB := hst.pB.cell
            have hst0 := Lib.hid hst; clear hst
            obtain ⟨most, hmost⟩ : ∃ m : Nat, m = max 256 n := ⟨_, rfl⟩
            have hmx : (if (256 : Int) < (n : Int) then (n : Int) else 256) = (most : Int) := by
              rw [hmost]; split <;> omega
            have hm5 : most ≤ 100000 := by omega
            have HM := Lib.hid hmost; clear hmost
            go_wp2_with fail
            clear hmx
            obtain ⟨F, hF⟩ : ∃ F, wq.heap.size = F := ⟨_, rfl⟩
            have E3 : PEnv (wq.alloc (.cells #[.func (.func 26) #[] #[.pointer (some ⟨B, 0, none⟩), .pointer (some ⟨Kb, 0, none⟩), .pointer (some ⟨T, 0, none⟩)]] 48)) F B Kb T R n nf k lb (atN rk) := by
              refine ⟨?_, cell_alloc cB _, cell_alloc cK _, cell_alloc cT _, fun j hj => cell_alloc (hst0.out.pR.getN hj).1 _⟩
              rw [← hF]; exact (Boxed.new wq _ _).cell
            have b3 : Below w.heap.size w (wq.alloc (.cells #[.func (.func 26) #[] #[.pointer (some ⟨B, 0, none⟩), .pointer (some ⟨Kb, 0, none⟩), .pointer (some ⟨T, 0, none⟩)]] 48)) := hbw.alloc hbw.size _
            have q3 : Below wq.heap.size wq (wq.alloc (.cells #[.func (.func 26) #[] #[.pointer (some ⟨B, 0, none⟩), .pointer (some ⟨Kb, 0, none⟩), .pointer (some ⟨T, 0, none⟩)]] 48)) := (Below.refl _ _).alloc (Nat.le_refl _) _
            have s3 : (wq.alloc (.cells #[.func (.func 26) #[] #[.pointer (some ⟨B, 0, none⟩), .pointer (some ⟨Kb, 0, none⟩), .pointer (some ⟨T, 0, none⟩)]] 48)).heap.size = F + 1 := by rw [← hF]; simp
            rw [hF]
            have HF := Lib.hid hF; clear hF
            generalize (wq.alloc (.cells #[.func (.func 26) #[] #[.pointer (some ⟨B, 0, none⟩), .pointer (some ⟨Kb, 0, none⟩), .pointer (some ⟨T, 0, none⟩)]] 48)) = w3 at *
            have hmem : ∀ i ∈ List.range n, snd' nx (atN rk) k i ≤ most := fun i hi => by
              have hi := List.mem_range.1 hi
              have hrl := hst0.out.rle
              rw [HM.out]
              unfold snd'
              cases h : nx i k with
              | some j => exact hrl j (HX.out.some i k j hi h).1
              | none => simp
            have k3 := key3_env b3 HNX.out HX.out E3 hk2 eg (List.range n) (fun i hi => List.mem_range.1 hi)
            refine (counted_law w3 _ n n (List.range n) most _ _ _ (hst0.out.pA.below q3).rd hn hm5 hmem k3 (fun args w => rfl)).mono ?_
            rintro e w4 ⟨g1, rfl, og1, b4⟩
            have E4 := E3.below b4
            have c4 := b3.trans (b4.mono b3.size)
            have q4 := q3.trans (b4.mono q3.size)
            have m1 := csort_mem (snd' nx (atN rk) k) (List.range n) (most + 1) (fun i hi => by have := hmem i hi; omega)
            have k4 := key4_env c4 HNX.out HX.out E4 hk2 eg (csort (snd' nx (atN rk) k) (List.range n) (most + 1)) (fun i hi => List.mem_range.1 ((m1 i).1 hi))
            have hmem2 : ∀ i ∈ csort (snd' nx (atN rk) k) (List.range n) (most + 1), atN rk i ≤ most := fun i hi => by
              rw [HM.out]; exact hst0.out.rle i (List.mem_range.1 ((m1 i).1 hi))
            have ord2 := round_order HX.out hst0.out.rok (by omega) most (fun i hi => by rw [HM.out]; exact hst0.out.rle i hi)
            have H4 := Lib.hid k4; clear k4
            have H5 := Lib.hid hmem2; clear hmem2
            have H6 := Lib.hid ord2; clear ord2
            have hT4 : T < w4.heap.size := World.block_lt_of_cell? _ _ E4.tt
            have hB4 : B < w4.heap.size := World.block_lt_of_cell? _ _ E4.nn
            have H7 := Lib.hid E4; clear E4 E3
            clear k3 hmem m1
            have og1r := og1.rd
            clear og1 b4 b3 q3
            generalize hcs : csort (snd' nx (atN rk) k) (List.range n) (most + 1) = o1 at *
            have HCS := Lib.hid hcs; clear hcs
            go_wp2_with fail
            refine (counted_law w4 _ n n o1 most _ _ _ og1r hn hm5 H5.out H4.out (fun args w => rfl)).mono ?_
            rintro e w5 ⟨g2, rfl, og2, b5⟩
            have E5 := H7.out.below b5
            have c5 := c4.trans (b5.mono c4.size)
            have q5 := q4.trans (b5.mono q4.size)
            have hg2 := og2.blk rfl
            clear H4 H5 H7 og1r
            generalize hcs : csort (atN rk) o1 (most + 1) = o2 at *
            have HCS2 := Lib.hid hcs; clear hcs
            have hs45 : w4.heap.size ≤ w5.heap.size := b5.size
            have hF5 : F < w5.heap.size := World.block_lt_of_cell? _ _ E5.f
            have hB5 : B < w5.heap.size := World.block_lt_of_cell? _ _ E5.nn
            have hK5 : Kb < w5.heap.size := World.block_lt_of_cell? _ _ E5.kk
            have hT5 : T < w5.heap.size := World.block_lt_of_cell? _ _ E5.tt
            have hR5 : R < w5.heap.size := Nat.lt_of_lt_of_le (hst0.out.pR.blk rfl).2 q5.size
            have hA5 : A < w5.heap.size := Nat.lt_of_lt_of_le (hst0.out.pA.blk rfl).2 q5.size
            have H7 := Lib.hid E5; clear E5
            clear b5 c4 q4
            go_wp2_with fail
            have hzer : Own (w5.alloc (.cells (madeCells #[.int .i64 0] n) 3)) 3 1 (B + 1) (some ⟨w5.heap.size, 0, none⟩) n n (N64 (List.replicate n 0)) := ownRow (World.alloc_heap_new w5 _) (B + 1) (by omega) HN63.out
            have og26 := og2.alloc (.cells (madeCells #[.int .i64 0] n) 3)
            have E6 := H7.out.below ((Below.refl _ _).alloc (Nat.le_refl _) (.cells (madeCells #[.int .i64 0] n) 3))
            have c6 := c5.alloc c5.size (.cells (madeCells #[.int .i64 0] n) 3)
            have q6 := q5.alloc q5.size (.cells (madeCells #[.int .i64 0] n) 3)
            have s6 : (w5.alloc (.cells (madeCells #[.int .i64 0] n) 3)).heap.size = w5.heap.size + 1 := by simp
            generalize w5.alloc (.cells (madeCells #[.int .i64 0] n) 3) = w6 at *
            obtain ⟨M, hM⟩ : ∃ M, w5.heap.size = M := ⟨_, rfl⟩
            rw [hM] at hzer s6 hg2 hF5 hB5 hK5 hT5 hR5 hA5 ⊢
            have HM5 := Lib.hid hM; clear hM
            have HZ := Lib.hid hzer; clear hzer
            have H8 := Lib.hid E6; clear E6
            have H9 := Lib.hid s6; clear s6
            clear og2 H7 c5 q5
            go_loopg [65] n (fun kk x wr => ∃ (p : Nat) (now : List Nat), p ≤ n ∧ kk = n - p ∧ x = .int .i64 p ∧ w6.grownBy wr (some M) ∧ Own wr 3 1 (B + 1) (some ⟨M, 0, none⟩) n n (N64 now) ∧ Hid (∀ q, q < p → atN now (atN o2 q) = cum nx (atN rk) k o2 q))
            case atStart => exact ⟨0, _, Nat.zero_le _, by simp, rfl, World.grownBy.refl _ _, HZ.out, Lib.hid (fun q hq => by omega)⟩
            case round =>
              obtain ⟨p, now, hp, rfl, rfl, hG, hnow, hcum⟩ := hrel
              rename World => wr
              by_cases hlt : p < n
              · have hor := og26.other hG (fun g hg => by simp at hg ⊢; omega)
                obtain ⟨i, hi⟩ : ∃ i, atN o2 p = i := ⟨_, rfl⟩
                have hin : i < n := by rw [← hi]; exact H6.out.lt hlt
                obtain ⟨ci, _⟩ := hor.getN hlt
                rw [hi] at ci
                obtain ⟨cn, fn⟩ := hnow.getN hin
                have HI := Lib.hid hi; clear hi
                generalize atN now i = x0 at *
                have hnow1 := hnow.setN i 1
                have hG1 := gSet hG i (.int .i64 ((1 : Nat) : Int))
                have HG := Lib.hid hG; clear hG
                have HN := Lib.hid hnow; clear hnow
                have HO := Lib.hid hor; clear hor
                cases p with
                | zero =>
                  clear hnow1 hG1
                  go_wp2_with fail
                  go_roundg (n - (0 + 1))
                  case measure => omega
                  case rel =>
                    exact ⟨1, _, by omega, rfl, by simp, gSet HG.out i _, HN.out.setN i 1, Lib.hid (fun q hq => by
                      have : q = 0 := by omega
                      subst this
                      rw [HI.out, atN_set _ _ _ _ (by rw [HN.out.rd.lenN]; exact hin), if_pos rfl]; rfl)⟩
                | succ p =>
                  have hnow2 : Own (wr.setCell ⟨M, i, none⟩ (.int .i64 1)) 3 1 (B + 1) (some ⟨M, 0, none⟩) n n (N64 (now.set i 1)) := hnow1
                  have hG2 : w6.grownBy (wr.setCell ⟨M, i, none⟩ (.int .i64 1)) (some M) := hG1
                  clear hnow1 hG1
                  have hlen : now.length = n := HN.out.rd.lenN
                  obtain ⟨j, hj⟩ : ∃ j, atN o2 p = j := ⟨_, rfl⟩
                  have hjn : j < n := by rw [← hj]; exact H6.out.lt (by omega)
                  have hji : j ≠ i := by rw [← hj, ← HI.out]; exact H6.out.ne (by omega) hlt
                  obtain ⟨co, _⟩ := (og26.other hG2 (fun g hg => by simp at hg ⊢; omega)).getN (k := p) (by omega)
                  rw [hj] at co
                  obtain ⟨cj, _⟩ := hnow2.getN hjn
                  obtain ⟨cx, fx⟩ := hnow2.getN hin
                  have hc0 := hcum.out p (by omega)
                  rw [hj] at hc0
                  rw [atN_set _ _ _ _ (by omega), if_neg hji, hc0] at cj
                  obtain ⟨c, hc⟩ : ∃ c, cum nx (atN rk) k o2 p = c := ⟨_, rfl⟩
                  rw [hc] at cj
                  have hcle : c ≤ p + 1 := by rw [← hc]; exact cum_le o2 p
                  have HC := Lib.hid hc; clear hc hc0
                  have HJ := Lib.hid hj; clear hj
                  have HLN := Lib.hid hlen; clear hlen
                  have HJI := Lib.hid hji; clear hji
                  go_upto_region 22 with fail
                  generalize atN (now.set i 1) i = xx at *
                  clear cn fn ci
                  generalize wr.setCell ⟨M, i, none⟩ (.int .i64 1) = w7 at *
                  go_upto_region 23 with fail
                  have hnow3 := hnow2.setN i c
                  have hG3 := gSet hG2 i (.int .i64 (c : Int))
                  have HG2 := Lib.hid hG2; clear hG2
                  have HN2 := Lib.hid hnow2; clear hnow2
                  generalize w7.setCell ⟨M, i, none⟩ (.int .i64 (c : Int)) = w8 at *
                  have E8 := H8.out.grown hG3 (by omega) (by omega) (by omega) (by omega) (by omega)
                  have b8 : Below w.heap.size w w8 := (c6.grown hG3 c6.size (fun x hx => by simp at hx; rw [HB.out]; omega))
                  obtain ⟨co8, _⟩ := (og26.other hG3 (fun g hg => by simp at hg ⊢; omega)).getN (k := p) (by omega)
                  rw [HJ.out] at co8
                  have cF8 := E8.f
                  clear co cj cx fx
                  have hpair : ∀ W, Below w8.heap.size w8 W → ∀ x, x < n → Calls Try.prog 26 (#[.int .i64 (x : Int)] ++ #[.pointer (some ⟨B, 0, none⟩), .pointer (some ⟨Kb, 0, none⟩), .pointer (some ⟨T, 0, none⟩)]) W fun e W' =>
                      e = .returned (.agg #[.int .i64 (atN rk x : Int), .int .i64 (snd' nx (atN rk) k x : Int)]) ∧ Below W.heap.size W W' := fun W hW x hx =>
                    pair_env (b8.trans (hW.mono b8.size)) HNX.out HX.out (E8.below hW) hk2 eg x hx
                  have HP := Lib.hid hpair; clear hpair
                  have H10 := Lib.hid E8; clear E8
                  have H11 := Lib.hid hG3; clear hG3
                  have hdr : Below w8.heap.size w8 w8.drew := (Below.refl _ _).drew
                  have hw1 : IntKind.i64.wrap (p : Int) = (p : Int) := IntWalk.i64_in _ (by omega)
                  have hpn : p < n := by omega
                  have hpn2 : (p : Int) < (n : Int) := by omega
                  have hkeep : ∀ q, q < p + 1 → ∀ v : List Nat, (∀ x, x < n → x ≠ i → atN v x = atN now x) → atN v (atN o2 q) = cum nx (atN rk) k o2 q := fun q hq v hv => by
                    rw [hv _ (H6.out.lt (by omega)) (by rw [← HI.out]; exact H6.out.ne hq hlt)]
                    exact hcum.out q hq
                  have HKP := Lib.hid hkeep; clear hkeep
                  cases hsp : samePair nx (atN rk) k i j with
                  | true =>
                    have hneq : ∀ w, (binOp .neq 47 (.agg #[.int .i64 (atN rk i : Int), .int .i64 (snd' nx (atN rk) k i : Int)]) (.agg #[.int .i64 (atN rk j : Int), .int .i64 (snd' nx (atN rk) k j : Int)])).run Try.prog w = .ok (.bool false) w := fun w => by
                      rw [run_pairs, show (atN rk i == atN rk j && snd' nx (atN rk) k i == snd' nx (atN rk) k j) = true from hsp]; rfl
                    have HSP := Lib.hid hsp; clear hsp
                    go_region_held3 (fun w' => w'.cell? ⟨F, 0, none⟩ = some (.func (.func 26) #[] #[.pointer (some ⟨B, 0, none⟩), .pointer (some ⟨Kb, 0, none⟩), .pointer (some ⟨T, 0, none⟩)]) ∧ w'.cell? ⟨g2, p, none⟩ = some (.int .i64 (j : Int))) (first | (exact ⟨cell_below cF8 b10, cell_below co8 b10⟩) | (exact ⟨cell_below cF8 b9, cell_below co8 b9⟩) | (exact ⟨cell_below cF8 hdr, cell_below co8 hdr⟩) | go_keep)
                      (first
                        | (go_at_call 26; refine (HP.out _ b9 _ (by omega)).mono ?_; rintro e w10 ⟨rfl, b10'⟩; have b10 := b9.trans (b10'.mono b9.size))
                        | (go_at_call 26; refine (HP.out _ hdr _ (by omega)).mono ?_; rintro e w9 ⟨rfl, b9'⟩; have b9 := hdr.trans (b9'.mono hdr.size)))
                    all_goals
                      go_wp2_with fail
                      go_roundg (n - (p + 1 + 1))
                      case measure => omega
                      case rel =>
                        have hl3 : (now.set i 1).length = n := by rw [List.length_set]; exact HLN.out
                        refine ⟨p + 1 + 1, _, by omega, rfl, by simp, gBelow H11.out b10, hnow3.below b10, Lib.hid (fun q hq => ?_)⟩
                        by_cases hq1 : q = p + 1
                        · subst hq1
                          rw [HI.out, atN_set _ _ _ _ (by omega), if_pos rfl]
                          simp only [cum, HC.out, HI.out, HJ.out, HSP.out, if_true, Nat.add_zero]
                        · exact HKP.out q (by omega) _ (fun x hx hxi => by
                            rw [atN_set _ _ _ _ (by omega), if_neg hxi, atN_set _ _ _ _ (by rw [HLN.out]; exact hx), if_neg hxi])
                  | false =>
                    have hneq : ∀ w, (binOp .neq 47 (.agg #[.int .i64 (atN rk i : Int), .int .i64 (snd' nx (atN rk) k i : Int)]) (.agg #[.int .i64 (atN rk j : Int), .int .i64 (snd' nx (atN rk) k j : Int)])).run Try.prog w = .ok (.bool true) w := fun w => by
                      rw [run_pairs, show (atN rk i == atN rk j && snd' nx (atN rk) k i == snd' nx (atN rk) k j) = false from hsp]; rfl
                    have HSP := Lib.hid hsp; clear hsp
                    go_region_held3 (fun w' => w'.cell? ⟨F, 0, none⟩ = some (.func (.func 26) #[] #[.pointer (some ⟨B, 0, none⟩), .pointer (some ⟨Kb, 0, none⟩), .pointer (some ⟨T, 0, none⟩)]) ∧ w'.cell? ⟨g2, p, none⟩ = some (.int .i64 (j : Int))) (first | (exact ⟨cell_below cF8 b10, cell_below co8 b10⟩) | (exact ⟨cell_below cF8 b9, cell_below co8 b9⟩) | (exact ⟨cell_below cF8 hdr, cell_below co8 hdr⟩) | go_keep)
                      (first
                        | (go_at_call 26; refine (HP.out _ b9 _ (by omega)).mono ?_; rintro e w10 ⟨rfl, b10'⟩; have b10 := b9.trans (b10'.mono b9.size))
                        | (go_at_call 26; refine (HP.out _ hdr _ (by omega)).mono ?_; rintro e w9 ⟨rfl, b9'⟩; have b9 := hdr.trans (b9'.mono hdr.size)))
                    all_goals
                      have hl3 : (now.set i 1).length = n := by rw [List.length_set]; exact HLN.out
                      have hnow4 := hnow3.below b10
                      obtain ⟨cy, fy⟩ := hnow4.getN hin
                      rw [atN_set _ _ _ _ (by omega), if_pos rfl] at cy
                      have HL3 := Lib.hid hl3; clear hl3
                      have HN4 := Lib.hid hnow4; clear hnow4
                      clear hneq
                      go_wp2_with fail
                      go_roundg (n - (p + 1 + 1))
                      case measure => omega
                      case rel =>
                        have hl3 := HL3.out
                        have hl4 : ((now.set i 1).set i c).length = n := by rw [List.length_set]; exact hl3
                        refine ⟨p + 1 + 1, _, by omega, rfl, by simp, gSet (gBelow H11.out b10) _ _, HN4.out.setN i (c + 1), Lib.hid (fun q hq => ?_)⟩
                        by_cases hq1 : q = p + 1
                        · subst hq1
                          rw [HI.out, atN_set _ _ _ _ (by omega), if_pos rfl]
                          simp [cum, HC.out, HI.out, HJ.out, HSP.out]
                        · exact HKP.out q (by omega) _ (fun x hx hxi => by
                            rw [atN_set _ _ _ _ (by omega), if_neg hxi, atN_set _ _ _ _ (by omega), if_neg hxi, atN_set _ _ _ _ (by rw [HLN.out]; exact hx), if_neg hxi])
              · obtain rfl : n = p := by omega
                have hTM : T ≠ M := by omega
                have pT := hst0.out.pT
                have pB := hst0.out.pB
                have pK := hst0.out.pK
                have pTr : Boxed wr T 34 (.slice (some ⟨R, 0, none⟩) n n) := (hG.block T (Nat.lt_of_lt_of_le pT.lt q6.size) (by simpa using hTM)).trans ((q6.block T pT.lt).trans pT)
                have pBr : Boxed wr B 42 (.func (.func nf) #[] lb) := (hG.block B (Nat.lt_of_lt_of_le pB.lt q6.size) (by simp; omega)).trans ((q6.block B pB.lt).trans pB)
                have pKr : Boxed wr Kb 3 (.int .i64 (k : Int)) := (hG.block Kb (Nat.lt_of_lt_of_le pK.lt q6.size) (by simp; omega)).trans ((q6.block Kb pK.lt).trans pK)
                have pAr := (hst0.out.pA.below q6).other hG (fun g hg => by simp at hg ⊢; omega)
                have pgr := og26.other hG (fun g hg => by simp at hg ⊢; omega)
                have b8 : Below w.heap.size w wr := (c6.grown hG c6.size (fun x hx => by simp at hx; rw [HB.out]; omega))
                have rok := round_rank HX.out hst0.out.rok (by omega) H6.out (atN now) hcum.out
                have rle := rank_le H6.out (atN now) hcum.out
                have cTr := pTr.cell
                have fTr := pTr.frozen
                have cKr := pKr.cell
                have hTK : ¬ Kb = T := Ne.symm hst0.out.tK
                have hBT := hst0.out.tB
                have hTA := hst0.out.tA
                have HTg : T ≠ g2 := by omega
                have H12 := Lib.hid rok; clear rok
                have H13 := Lib.hid rle; clear rle
                clear hG hcum hst0 pT pB pK
                go_wp2_with fail
                go_roundg (2 * n - 2 * k)
                case measure => omega
                case rel =>
                  have hs6 := H9.out
                  have hsb := b8.size
                  rw [HB.out] at hsb
                  have e2 : ((k : Int) * 2) = ((2 * k : Nat) : Int) := by omega
                  refine ⟨2 * k, wr.heap.size, g2, M, o2, now, rfl, rfl, rfl, ?_⟩
                  rw [e2]
                  have b8' : Below B w wr := by rw [HB.out] at b8; exact b8
                  exact ⟨(b8'.setCell (by simp; omega) _).alloc (by simp; omega) _, (pAr.setOther _ _ (fun g hg => by simp at hg ⊢; omega)).alloc _, ((pgr.lower (by omega)).setOther _ _ (fun g hg => by simp at hg ⊢; omega)).alloc _,
                    (hnow.setOther _ _ (fun g hg => by simp at hg ⊢; omega)).alloc _, (pTr.set _).alloc _, (show Boxed (wr.setCell ⟨T, 0, none⟩ (.slice (some ⟨M, 0, none⟩) n n)) B _ _ from (Below.heap_setCell _ _ _ B (by simp; omega)).trans pBr).alloc _,
                    by have h1 := Boxed.new (wr.setCell ⟨T, 0, none⟩ (.slice (some ⟨M, 0, none⟩) n n)) 3 (.int .i64 ((2 * k : Nat) : Int)); simpa using h1, H6.out, H12.out, fun i hi => by have := H13.out i hi; omega, by omega, by omega, hTA, HTg, hBT, by
                      have := pTr.lt; omega, hTM⟩
          · have ord := hst.ord
            have hbw : Below w.heap.size w wq := by rw [HB.out]; exact hst.below
            have pg := hst.pg
            have hst0 := Lib.hid hst; clear hst
            go_wp2_with fail
            go_ret
            exact ⟨g, o, k, rfl, pg.lower (by rw [HB.out]; omega), ord, by omega, hbw⟩
end Go.Proofs.Ytjjdckbdjmbndaa
