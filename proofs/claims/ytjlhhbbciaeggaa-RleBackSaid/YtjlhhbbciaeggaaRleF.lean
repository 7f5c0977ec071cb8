/- rle.Unpack: the walk. -/
import Derived.Test.YtjlhhbbciaeggaaRleE
import Derived.Laws.ResultCell
namespace Go.Proofs.Ytjlhhbbciaeggaa
set_option linter.unusedSimpArgs false
set_option linter.unusedVariables false
open Go.RowKit

def UnPost (w : World) (p : List UInt8) (n : Nat) (keep : Int) (e : Ending) (w' : World) : Prop :=
  Below w.heap.size w w' ∧ ((keep < 0 ∧ e = .returned (.tuple #[.agg #[.slice none 0 0, .int .i64 0, .int .i64 0, .bool false], .int .i64 5])) ∨
    (0 ≤ keep ∧ ∃ a c, e = .returned (.tuple #[.agg #[.slice a (min (say p).length keep.toNat) c, .int .i64 ((say p).length : Int), .int .i64 (n : Int), .bool false], .int .i64 0]) ∧ Own w' 5 1 w.heap.size a (min (say p).length keep.toNat) c (B8 ((say p).take keep.toNat))))

theorem um_full (d : UInt8) (x : UInt8) (xs : List UInt8) : um d 4 (x :: xs) = List.replicate x.toNat d ++ um x 0 xs := by rw [um, if_pos rfl]
theorem um_cut (d : UInt8) (r : Nat) (x : UInt8) (xs : List UInt8) (h4 : r < 4) (h0 : 0 < r) (hx : x ≠ d) : um d r (x :: xs) = [x] ++ um x 1 xs := by rw [um, if_neg (by omega), if_pos ⟨h0, hx⟩]; rfl
theorem um_like (r : Nat) (x : UInt8) (xs : List UInt8) (h4 : r < 4) : um x r (x :: xs) = [x] ++ um x (r + 1) xs := by rw [um, if_neg (by omega), if_neg (by simp)]; rfl
theorem um_first (d : UInt8) (x : UInt8) (xs : List UInt8) : um d 0 (x :: xs) = [x] ++ um x 1 xs := by rw [um, if_neg (by omega), if_neg (by simp)]; rfl
theorem drop_at (p : List UInt8) (i : Nat) (h : i < p.length) : p.drop i = at8 p i :: p.drop (i + 1) := by
  rw [List.drop_eq_getElem_cons h]; simp [at8, h]
theorem take_grow (o y : List UInt8) (k : Nat) : o.take k ++ y.take (k - o.length) = (o ++ y).take k := by rw [List.take_append]

theorem four_own (w : World) (t : TypeId) (a b c d : Value) (ha : a.oneCell' = true) (hb : b.oneCell' = true) (hc : c.oneCell' = true) (hd : d.oneCell' = true) : Own (w.alloc (.cells #[a, b, c, d] t)) t 1 w.heap.size (some ⟨w.heap.size, 0, none⟩) 4 4 [a, b, c, d] :=
  ⟨⟨rfl, .inr ⟨w.heap.size, 4, #[a, b, c, d], rfl, Nat.le_refl _, heap_alloc_new w _, Nat.le_refl _, by decide, rfl, rfl⟩⟩, fun u hu => by simp at hu; rcases hu with rfl | rfl | rfl | rfl <;> assumption⟩

set_option maxRecDepth 100000 in
set_option maxHeartbeats 4000000 in
theorem unpack_law (w : World) (ad : Option Addr) (n cap : Nat) (p : List UInt8) (hb : Rd w 1 ad n cap (B8 p)) (hn : n ≤ 10000) (keep : Int) (hk1 : keep ≤ 9223372036854775807) :
    Calls Try.prog 11 #[.slice ad n cap, .int .i64 keep] w (UnPost w p n keep) := by
  have hl := hb.len8
  have HL := Lib.hid hl; clear hl
  obtain ⟨B, hB⟩ : ∃ B, w.heap.size = B := ⟨_, rfl⟩
  have hz : ∀ w : World, (zeroValue 29).run Try.prog w = .ok (.agg #[.slice none 0 0, .int .i64 0, .int .i64 0, .bool false]) w := fun w => by kernel_rfl
  by_cases hlo : keep < 0
  · have hb1 : Below w.heap.size w ((w.alloc (.cells #[.int .i64 keep] 3)).alloc (.cells #[.slice none 0 0, .int .i64 0, .int .i64 0, .bool false] 29)) := ((Below.refl _ w).alloc (Nat.le_refl _) _).alloc (by simp) _
    have HB1 := Lib.hid hb1; clear hb1
    go_enter Try.func11, Try.ntmps11
    go_wp2
    refine ⟨rfl, .tuple #[.agg #[.slice none 0 0, .int .i64 0, .int .i64 0, .bool false], .int .i64 5], ?res, ?post⟩
    case res =>
      rw [results_cell_tmp rfl]
      go_simp
    case post => exact ⟨HB1.out, .inl ⟨hlo, rfl⟩⟩
  · obtain ⟨kp, rfl⟩ : ∃ kp : Nat, keep = (kp : Int) := ⟨keep.toNat, by omega⟩
    go_enter Try.func11, Try.ntmps11
    go_wp2_with fail
    have n0 : Own (((w.alloc (.cells #[.int .i64 (kp : Int)] 3)).alloc (.cells #[.slice none 0 0, .int .i64 0, .int .i64 0, .bool false] 29)).alloc (.cells #[.slice none 0 0, .int .i64 0, .int .i64 (n : Int), .bool false] 29)) 29 1 (B + 1) (some ⟨B + 1, 0, none⟩) 4 4 [.slice none 0 0, .int .i64 0, .int .i64 0, .bool false] := by
      have := four_own (w.alloc (.cells #[.int .i64 (kp : Int)] 3)) 29 (.slice none 0 0) (.int .i64 0) (.int .i64 0) (.bool false) rfl rfl rfl rfl
      rw [World.size_alloc, hB] at this
      exact this.alloc _
    have n1 : FlowIn (((w.alloc (.cells #[.int .i64 (kp : Int)] 3)).alloc (.cells #[.slice none 0 0, .int .i64 0, .int .i64 0, .bool false] 29)).alloc (.cells #[.slice none 0 0, .int .i64 0, .int .i64 (n : Int), .bool false] 29)) (B + 2) none 0 0 0 n := by
      have := four_own ((w.alloc (.cells #[.int .i64 (kp : Int)] 3)).alloc (.cells #[.slice none 0 0, .int .i64 0, .int .i64 0, .bool false] 29)) 29 (.slice none 0 0) (.int .i64 0) (.int .i64 (n : Int)) (.bool false) rfl rfl rfl rfl
      rw [World.size_alloc, World.size_alloc, hB] at this
      exact this
    have bx : Boxed (((w.alloc (.cells #[.int .i64 (kp : Int)] 3)).alloc (.cells #[.slice none 0 0, .int .i64 0, .int .i64 0, .bool false] 29)).alloc (.cells #[.slice none 0 0, .int .i64 0, .int .i64 (n : Int), .bool false] 29)) B 3 (.int .i64 (kp : Int)) := by
      have := ((Boxed.new w 3 (.int .i64 (kp : Int))).alloc (.cells #[.slice none 0 0, .int .i64 0, .int .i64 0, .bool false] 29)).alloc (.cells #[.slice none 0 0, .int .i64 0, .int .i64 (n : Int), .bool false] 29)
      rwa [hB] at this
    have bel : Below B w (((w.alloc (.cells #[.int .i64 (kp : Int)] 3)).alloc (.cells #[.slice none 0 0, .int .i64 0, .int .i64 0, .bool false] 29)).alloc (.cells #[.slice none 0 0, .int .i64 0, .int .i64 (n : Int), .bool false] 29)) := by
      rw [← hB]; exact (((Below.refl _ w).alloc (Nat.le_refl _) _).alloc (by simp) _).alloc (by simp; omega) _
    have sz : B + 3 ≤ (((w.alloc (.cells #[.int .i64 (kp : Int)] 3)).alloc (.cells #[.slice none 0 0, .int .i64 0, .int .i64 0, .bool false] 29)).alloc (.cells #[.slice none 0 0, .int .i64 0, .int .i64 (n : Int), .bool false] 29)).heap.size := by simp [hB]
    generalize (((w.alloc (.cells #[.int .i64 (kp : Int)] 3)).alloc (.cells #[.slice none 0 0, .int .i64 0, .int .i64 0, .bool false] 29)).alloc (.cells #[.slice none 0 0, .int .i64 0, .int .i64 (n : Int), .bool false] 29)) = wz at *
    clear hz
    go_loopg [8, 20] n (fun gk rr i wr => ∃ (j r : Nat) (o : List UInt8) (d : UInt8), j ≤ n ∧ gk = n - j ∧ i = .int .i64 (j : Int) ∧ rr = .int .i64 (r : Int) ∧ r ≤ 4 ∧ (0 < r → 0 < j ∧ d = at8 p (j - 1)) ∧ o.length ≤ 255 * j ∧ Hid (o ++ um d r (p.drop j) = say p) ∧
      Own wr 29 1 (B + 1) (some ⟨B + 1, 0, none⟩) 4 4 [.slice none 0 0, .int .i64 0, .int .i64 0, .bool false] ∧ Boxed wr B 3 (.int .i64 (kp : Int)) ∧ Below B w wr ∧ B + 3 ≤ wr.heap.size ∧
      ∃ a c, FlowIn wr (B + 2) a (min o.length kp) c o.length n ∧ Own wr 5 1 (B + 3) a (min o.length kp) c (B8 (o.take kp)))
    case atStart => exact ⟨0, 0, [], 0, Nat.zero_le _, by simp, rfl, rfl, by omega, fun h => by omega, by simp, Lib.hid rfl, n0, bx, bel, sz, none, 0, by simpa using n1, by simpa [B8] using Own.nil _ _ _ _⟩
    case round =>
      clear n0 n1 bx bel sz
      obtain ⟨j, r, o, d, hj, rfl, rfl, rfl, hr4, hrd, hol, hsay, n0, bx, bel, sz, a, c, n1, oo⟩ := hrel
      rename World => wr
      by_cases hlt : j < n
      · have hbw := hb.below (show Below w.heap.size w wr by rw [hB]; exact bel)
        obtain ⟨nx, cx⟩ := hbw.get8 hlt
        have hdr := drop_at p j (by rw [HL.out]; exact hlt)
        have hsy := hsay.out
        rw [hdr] at hsy
        obtain ⟨x, hx⟩ : ∃ x, at8 p j = x := ⟨_, rfl⟩
        rw [hx] at hsy cx
        obtain ⟨L, hL⟩ : ∃ L, o.length = L := ⟨_, rfl⟩
        rw [hL] at n1 oo hol
        by_cases h4 : r = 4
        · subst h4
          obtain ⟨hj0, rfl⟩ := hrd (by omega)
          obtain ⟨q, rfl⟩ : ∃ q, j = q + 1 := ⟨j - 1, by omega⟩
          rw [Nat.add_sub_cancel] at hsy
          obtain ⟨_, cq⟩ := hbw.get8 (k := q) (by omega)
          rw [um_full] at hsy
          have hx255 : x.toNat ≤ 255 := by have := x.toNat_lt; omega
          have w8 : wrap64 (x.toNat : Int) = (x.toNat : Int) := by unfold wrap64; omega
          obtain ⟨b0, hb0⟩ : ∃ b0, at8 p q = b0 := ⟨_, rfl⟩
          rw [hb0] at hsy cq
          clear hdr hx hrd hb0
          go_wp2_with fail
          refine (put_law wr (B + 2) B a (min L kp) c L n kp (o.take kp) n1 bx oo (by omega) (by omega) b0 x.toNat (by omega) (by omega) (by omega) (by omega)).mono ?_
          rintro e w2 ⟨⟨v, rfl⟩, a2, c2, f2, o2, b2⟩
          have hlen : min L kp + min x.toNat (kp - L) = min (L + x.toNat) kp := by omega
          have hlen2 : (o ++ List.replicate x.toNat b0).length = L + x.toNat := by rw [List.length_append, hL, List.length_replicate]
          have htk : o.take kp ++ List.replicate (min x.toNat (kp - L)) b0 = (o ++ List.replicate x.toNat b0).take kp := by rw [← take_grow, hL, List.take_replicate]; congr 2; omega
          rw [hlen] at f2 o2
          rw [htk] at o2
          have n0' := n0.keep (w' := w2) fun g hg => by cases hg; exact b2.block _ (by omega)
          have bx' : Boxed w2 B 3 (.int .i64 (kp : Int)) := (b2.block _ (by omega)).trans bx
          have bel' := bel.trans (b2.mono (show B ≤ B + 2 by omega))
          have sz' : B + 3 ≤ w2.heap.size := Nat.le_trans sz b2.size
          have HT := Lib.hid hlen2; clear hlen2
          have N0 := Lib.hid n0'; clear n0'
          have BX := Lib.hid bx'; clear bx'
          have BEL := Lib.hid bel'; clear bel'
          have SZ := Lib.hid sz'; clear sz'
          have HF := Lib.hid f2; clear f2
          have HO := Lib.hid o2; clear o2
          have HSY := Lib.hid hsy; clear hsy
          clear hlen htk n0 bx bel sz n1 oo b2 hbw hsay
          go_wp2_with fail
          go_roundg (n - ((q + 1) + 1))
          case measure => omega
          case rel => exact ⟨(q + 1) + 1, 0, o ++ List.replicate x.toNat b0, x, by omega, rfl, rfl, rfl, by omega, fun h => by omega, by rw [HT.out]; omega, Lib.hid (by rw [List.append_assoc]; exact HSY.out), N0.out, BX.out, BEL.out, SZ.out, a2, c2, by rw [HT.out]; exact HF.out, by rw [HT.out]; exact HO.out⟩
        · have h4z : ((r : Int) == 4) = false := beq_eq_false_iff_ne.2 (by omega)
          by_cases h0 : 0 < r
          · obtain ⟨hj0, rfl⟩ := hrd h0
            obtain ⟨q, rfl⟩ : ∃ q, j = q + 1 := ⟨j - 1, by omega⟩
            rw [Nat.add_sub_cancel] at hsy
            obtain ⟨_, cq⟩ := hbw.get8 (k := q) (by omega)
            obtain ⟨b0, hb0⟩ : ∃ b0, at8 p q = b0 := ⟨_, rfl⟩
            rw [hb0] at hsy cq
            by_cases hxb : x = b0
            · subst hxb
              rw [um_like r x _ (by omega)] at hsy
              clear hdr hrd hb0
              go_wp2_with fail
              refine (put_law wr (B + 2) B a (min L kp) c L n kp (o.take kp) n1 bx oo (by omega) (by omega) x 1 (by omega) (by omega) (by omega) (by omega)).mono ?_
              rintro e w2 ⟨⟨v, rfl⟩, a2, c2, f2, o2, b2⟩
              have hlen : min L kp + min 1 (kp - L) = min (L + 1) kp := by omega
              have hlen2 : (o ++ List.replicate 1 x).length = L + 1 := by rw [List.length_append, hL, List.length_replicate]
              have htk : o.take kp ++ List.replicate (min 1 (kp - L)) x = (o ++ List.replicate 1 x).take kp := by rw [← take_grow, hL, List.take_replicate]; congr 2; omega
              rw [hlen] at f2 o2
              rw [htk] at o2
              have n0' := n0.keep (w' := w2) fun g hg => by cases hg; exact b2.block _ (by omega)
              have bx' : Boxed w2 B 3 (.int .i64 (kp : Int)) := (b2.block _ (by omega)).trans bx
              have bel' := bel.trans (b2.mono (show B ≤ B + 2 by omega))
              have sz' : B + 3 ≤ w2.heap.size := Nat.le_trans sz b2.size
              have HT := Lib.hid hlen2; clear hlen2
              have N0 := Lib.hid n0'; clear n0'
              have BX := Lib.hid bx'; clear bx'
              have BEL := Lib.hid bel'; clear bel'
              have SZ := Lib.hid sz'; clear sz'
              have HF := Lib.hid f2; clear f2
              have HO := Lib.hid o2; clear o2
              have HSY := Lib.hid hsy; clear hsy
              clear hlen htk n0 bx bel sz n1 oo b2 hbw hsay
              go_wp2_with fail
              go_roundg (n - ((q + 1) + 1))
              case measure => omega
              case rel => exact ⟨(q + 1) + 1, (r + 1), o ++ List.replicate 1 x, x, by omega, rfl, rfl, rfl, by omega, fun h => ⟨by omega, by rw [Nat.add_sub_cancel]; exact hx.symm⟩, by rw [HT.out]; omega, Lib.hid (by rw [List.append_assoc]; exact HSY.out), N0.out, BX.out, BEL.out, SZ.out, a2, c2, by rw [HT.out]; exact HF.out, by rw [HT.out]; exact HO.out⟩
            · have hxn : ¬ x.toNat = b0.toNat := fun h => hxb (UInt8.toNat_inj.1 h)
              rw [um_cut b0 r x _ (by omega) h0 hxb] at hsy
              clear hdr hrd hb0
              go_wp2_with fail
              refine (put_law wr (B + 2) B a (min L kp) c L n kp (o.take kp) n1 bx oo (by omega) (by omega) x 1 (by omega) (by omega) (by omega) (by omega)).mono ?_
              rintro e w2 ⟨⟨v, rfl⟩, a2, c2, f2, o2, b2⟩
              have hlen : min L kp + min 1 (kp - L) = min (L + 1) kp := by omega
              have hlen2 : (o ++ List.replicate 1 x).length = L + 1 := by rw [List.length_append, hL, List.length_replicate]
              have htk : o.take kp ++ List.replicate (min 1 (kp - L)) x = (o ++ List.replicate 1 x).take kp := by rw [← take_grow, hL, List.take_replicate]; congr 2; omega
              rw [hlen] at f2 o2
              rw [htk] at o2
              have n0' := n0.keep (w' := w2) fun g hg => by cases hg; exact b2.block _ (by omega)
              have bx' : Boxed w2 B 3 (.int .i64 (kp : Int)) := (b2.block _ (by omega)).trans bx
              have bel' := bel.trans (b2.mono (show B ≤ B + 2 by omega))
              have sz' : B + 3 ≤ w2.heap.size := Nat.le_trans sz b2.size
              have HT := Lib.hid hlen2; clear hlen2
              have N0 := Lib.hid n0'; clear n0'
              have BX := Lib.hid bx'; clear bx'
              have BEL := Lib.hid bel'; clear bel'
              have SZ := Lib.hid sz'; clear sz'
              have HF := Lib.hid f2; clear f2
              have HO := Lib.hid o2; clear o2
              have HSY := Lib.hid hsy; clear hsy
              clear hlen htk n0 bx bel sz n1 oo b2 hbw hsay
              go_wp2_with fail
              go_roundg (n - ((q + 1) + 1))
              case measure => omega
              case rel => exact ⟨(q + 1) + 1, 1, o ++ List.replicate 1 x, x, by omega, rfl, rfl, rfl, by omega, fun h => ⟨by omega, by rw [Nat.add_sub_cancel]; exact hx.symm⟩, by rw [HT.out]; omega, Lib.hid (by rw [List.append_assoc]; exact HSY.out), N0.out, BX.out, BEL.out, SZ.out, a2, c2, by rw [HT.out]; exact HF.out, by rw [HT.out]; exact HO.out⟩
          · obtain rfl : r = 0 := by omega
            rw [um_first] at hsy
            clear hdr hrd
            go_wp2_with fail
            refine (put_law wr (B + 2) B a (min L kp) c L n kp (o.take kp) n1 bx oo (by omega) (by omega) x 1 (by omega) (by omega) (by omega) (by omega)).mono ?_
            rintro e w2 ⟨⟨v, rfl⟩, a2, c2, f2, o2, b2⟩
            have hlen : min L kp + min 1 (kp - L) = min (L + 1) kp := by omega
            have hlen2 : (o ++ List.replicate 1 x).length = L + 1 := by rw [List.length_append, hL, List.length_replicate]
            have htk : o.take kp ++ List.replicate (min 1 (kp - L)) x = (o ++ List.replicate 1 x).take kp := by rw [← take_grow, hL, List.take_replicate]; congr 2; omega
            rw [hlen] at f2 o2
            rw [htk] at o2
            have n0' := n0.keep (w' := w2) fun g hg => by cases hg; exact b2.block _ (by omega)
            have bx' : Boxed w2 B 3 (.int .i64 (kp : Int)) := (b2.block _ (by omega)).trans bx
            have bel' := bel.trans (b2.mono (show B ≤ B + 2 by omega))
            have sz' : B + 3 ≤ w2.heap.size := Nat.le_trans sz b2.size
            have HT := Lib.hid hlen2; clear hlen2
            have N0 := Lib.hid n0'; clear n0'
            have BX := Lib.hid bx'; clear bx'
            have BEL := Lib.hid bel'; clear bel'
            have SZ := Lib.hid sz'; clear sz'
            have HF := Lib.hid f2; clear f2
            have HO := Lib.hid o2; clear o2
            have HSY := Lib.hid hsy; clear hsy
            clear hlen htk n0 bx bel sz n1 oo b2 hbw hsay
            go_wp2_with fail
            go_roundg (n - (j + 1))
            case measure => omega
            case rel => exact ⟨j + 1, 1, o ++ List.replicate 1 x, x, by omega, rfl, rfl, rfl, by omega, fun h => ⟨by omega, by rw [Nat.add_sub_cancel]; exact hx.symm⟩, by rw [HT.out]; omega, Lib.hid (by rw [List.append_assoc]; exact HSY.out), N0.out, BX.out, BEL.out, SZ.out, a2, c2, by rw [HT.out]; exact HF.out, by rw [HT.out]; exact HO.out⟩
      · obtain rfl : j = n := by omega
        have hfin : o = say p := by
          have := hsay.out
          rw [List.drop_eq_nil_of_le (by rw [HL.out]; exact Nat.le_refl _)] at this
          rw [← this]
          show o = o ++ um d r []
          cases d; simp [um]
        subst hfin
        obtain ⟨L, hL⟩ : ∃ L, (say p).length = L := ⟨_, rfl⟩
        rw [hL] at n1 oo hol
        clear hsay hrd
        obtain ⟨m0, hm0⟩ : ∃ m0, min L kp = m0 := ⟨_, rfl⟩
        rw [hm0] at n1 oo
        have r0 := Own.read n1 (j := 0) rfl
        have r1 := Own.read n1 (j := 1) rfl
        have r2 := Own.read n1 (j := 2) rfl
        have r3 := Own.read n1 (j := 3) rfl
        have q0 := Own.read n0 (j := 0) rfl
        have q1 := Own.read n0 (j := 1) rfl
        have q2 := Own.read n0 (j := 2) rfl
        have q3 := Own.read n0 (j := 3) rfl
        have hbB : Below B w ((((wr.setCell ⟨B + 1, 0, none⟩ (.slice a m0 c)).setCell ⟨B + 1, 1, none⟩ (.int .i64 (L : Int))).setCell ⟨B + 1, 2, none⟩ (.int .i64 (j : Int))).setCell ⟨B + 1, 3, none⟩ (.bool false)) :=
          (((bel.setCell (by simp) _).setCell (by simp) _).setCell (by simp) _).setCell (by simp) _
        have oB := (((oo.setOther ⟨B + 1, 0, none⟩ (.slice a m0 c) (fun g hg => by have := (oo.blk hg).1; simp; omega)).setOther ⟨B + 1, 1, none⟩ (.int .i64 (L : Int)) (fun g hg => by have := (oo.blk hg).1; simp; omega)).setOther ⟨B + 1, 2, none⟩ (.int .i64 (j : Int)) (fun g hg => by have := (oo.blk hg).1; simp; omega)).setOther ⟨B + 1, 3, none⟩ (.bool false) (fun g hg => by have := (oo.blk hg).1; simp; omega)
        have oN := (((n0.set 0 (.slice a m0 c) rfl).set 1 (.int .i64 (L : Int)) rfl).set 2 (.int .i64 (j : Int)) rfl).set 3 (.bool false) rfl
        have OO := Lib.hid oB; clear oB oo
        have BEL := Lib.hid hbB; clear hbB bel
        have HM := Lib.hid hm0; clear hm0
        have f0 := (Own.read oN (j := 0) rfl).1
        have f1 := (Own.read oN (j := 1) rfl).1
        have f2 := (Own.read oN (j := 2) rfl).1
        have f3 := (Own.read oN (j := 3) rfl).1
        clear oN
        go_wp2_with fail
        refine ⟨rfl, .tuple #[.agg #[.slice a m0 c, .int .i64 (L : Int), .int .i64 (j : Int), .bool false], .int .i64 0], ?res2, ?post2⟩
        case res2 =>
          rw [results_cell_tmp rfl]
          go_simp
        case post2 =>
          refine ⟨by rw [hB]; exact BEL.out, .inr ⟨hlo, a, c, ?_, ?_⟩⟩
          · rw [hL, Int.toNat_natCast, HM.out]
          · rw [hL, Int.toNat_natCast, HM.out, hB]
            exact OO.out.lower (by omega)
end Go.Proofs.Ytjlhhbbciaeggaa
