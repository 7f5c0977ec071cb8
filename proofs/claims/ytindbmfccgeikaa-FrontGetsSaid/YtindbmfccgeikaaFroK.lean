/- The document's answer: Used, moved, Digits. -/
import Derived.Test.YtindbmfccgeikaaFroJ
namespace Go.Proofs.Ytindbmfccgeikaa
set_option linter.unusedSimpArgs false
set_option linter.unusedVariables false
open Go.RowKit

theorem tB : ElTy Try.prog 56 4 (.bool false) 1 1 := ⟨Try.underlying56, info_parts (by kernel_rfl), rfl, by decide⟩
def hasL (xs : List UInt8) : List Value := (List.range 256).map fun k => Value.bool (xs.contains (UInt8.ofNat k))
theorem hasL_len (xs : List UInt8) : (hasL xs).length = 256 := by simp [hasL]
theorem hasL_get (xs : List UInt8) (k : Nat) (h : k < 256) : (hasL xs)[k]? = some (.bool (xs.contains (UInt8.ofNat k))) := by simp [hasL, h]
theorem hasL_nil : List.replicate 256 (Value.bool false) = hasL [] := by
  apply List.ext_getElem?
  intro k
  rcases Nat.lt_or_ge k 256 with h | h
  · rw [hasL_get _ _ h, List.getElem?_replicate, if_pos h]; rfl
  · rw [List.getElem?_eq_none (by rw [List.length_replicate]; exact h), List.getElem?_eq_none (by rw [hasL_len]; exact h)]
theorem hasL_snoc (xs : List UInt8) (c : UInt8) : (hasL xs).set c.toNat (.bool true) = hasL (xs ++ [c]) := by
  apply List.ext_getElem?
  intro k
  have hc := c.toNat_lt
  rcases Nat.lt_or_ge k 256 with h | h
  · rw [hasL_get _ _ h, List.getElem?_set, hasL_len, hasL_get _ _ h]
    by_cases e : c.toNat = k
    · rw [if_pos e, if_pos (by omega)]
      subst e
      simp
    · rw [if_neg e]
      have : UInt8.ofNat k ≠ c := fun h2 => e (by rw [← h2, UInt8.toNat_ofNat', Nat.mod_eq_of_lt h])
      simp [this]
  · rw [List.getElem?_eq_none (by simpa [hasL_len] using h), List.getElem?_eq_none (by rw [hasL_len]; exact h)]
def upL (b : List UInt8) (c : Nat) : List UInt8 := ((List.range c).map UInt8.ofNat).filter fun x => b.contains x
theorem upL_succ (b : List UInt8) (c : Nat) : upL b (c + 1) = if b.contains (UInt8.ofNat c) then upL b c ++ [UInt8.ofNat c] else upL b c := by
  unfold upL
  rw [List.range_succ, List.map_append, List.filter_append]
  by_cases h : b.contains (UInt8.ofNat c)
  · rw [if_pos h]; simp at h; simp [h]
  · rw [if_neg h]; simp at h; simp [h]
theorem upL_len (b : List UInt8) (c : Nat) : (upL b c).length ≤ c := Nat.le_trans (List.length_filter_le _ _) (by simp)
theorem take_snoc8 (b : List UInt8) (i : Nat) (h : i < b.length) : b.take (i + 1) = b.take i ++ [at8 b i] := by
  rw [List.take_add_one, List.getElem?_eq_getElem h]
  simp [at8, List.getD_eq_getElem?_getD, h]

set_option maxRecDepth 100000 in
set_option maxHeartbeats 4000000 in
theorem used_law (w : World) (ad : Option Addr) (n cap : Nat) (b : List UInt8) (hb : Rd w 1 ad n cap (B8 b)) (hn : n ≤ 1000000) :
    Calls Try.prog 20 #[.slice ad n cap] w fun e w' => ∃ a c, e = .returned (.slice a (usedL b).length c) ∧ Own w' 5 1 w.heap.size a (usedL b).length c (B8 (usedL b)) ∧ Below w.heap.size w w' := by
  have hl := hb.len8
  have HL := Lib.hid hl; clear hl
  obtain ⟨B, hB⟩ : ∃ B, w.heap.size = B := ⟨_, rfl⟩
  rw [hB]
  have HU := Lib.hid (show usedL b = upL b 256 from rfl)
  generalize usedL b = U at *
  go_enter Try.func20, Try.ntmps20
  go_wp2_with (refine wpList_mk rfl _ _ _ rfl tB rfl rfl 256 rfl rfl rfl rfl (by unfold maxLen; omega) (by omega) ?_; intro w1 o1 b1 s1; have S1 := Lib.hid s1; clear s1)
  have hw1 : B < w1.heap.size := by rw [S1.out]; omega
  rw [hB] at o1 b1
  (try rw [hB])
  rw [hasL_nil] at o1
  have HB := Lib.hid hB; clear hB S1
  go_loopg [4] n (fun k v wr => ∃ i : Nat, i ≤ n ∧ n - i = k ∧ v = .int .i64 (i : Int) ∧ Below B w wr ∧ B < wr.heap.size ∧ Own wr 4 1 B (some ⟨B, 0, none⟩) 256 256 (hasL (b.take i)))
  case atStart => exact ⟨0, Nat.zero_le _, rfl, rfl, b1, hw1, o1⟩
  case round =>
    clear o1 b1 hw1
    obtain ⟨i, hin, rfl, rfl, bw, hBw, oa⟩ := hrel
    rename World => wr
    by_cases hlt : i < n
    · obtain ⟨ne, cb⟩ := (hb.below (show Below w.heap.size w wr by rw [HB.out]; exact bw)).get8 hlt
      have hts := take_snoc8 b i (by rw [HL.out]; exact hlt)
      obtain ⟨x, hx⟩ : ∃ x, at8 b i = x := ⟨_, rfl⟩
      rw [hx] at cb hts
      have hx256 := x.toNat_lt
      obtain ⟨r1, r2⟩ := Own.read oa (hasL_get _ _ hx256)
      have os := oa.set x.toNat (.bool true) rfl
      rw [hasL_snoc, ← hts] at os
      have bs := bw.setCell (p := ⟨B, x.toNat, none⟩) (by simp) (.bool true)
      clear oa bw hts hx
      have hxi : (x.toNat : Int) < 256 := by omega
      go_wp2_with fail
      go_roundg (n - (i + 1))
      case measure => omega
      case rel => exact ⟨i + 1, by omega, rfl, by simp, bs, by simpa using hBw, os⟩
    · obtain rfl : i = n := by omega
      rw [List.take_of_length_le (by rw [HL.out]; exact Nat.le_refl _)] at oa
      go_wp2_with fail
      go_loopg [5, 6] 256 (fun k v5 v6 wq => ∃ (c : Nat) (a : Option Addr) (cp : Nat), c ≤ 256 ∧ 256 - c = k ∧ v5 = .slice a (upL b c).length cp ∧ v6 = .int .i64 (c : Int) ∧ Below B w wq ∧ B < wq.heap.size ∧ Own wq 4 1 B (some ⟨B, 0, none⟩) 256 256 (hasL b) ∧ Own wq 5 1 (B + 1) a (upL b c).length cp (B8 (upL b c)))
      case atStart => exact ⟨0, none, 0, by omega, rfl, rfl, rfl, bw, hBw, oa, Own.nil _ _ _ _⟩
      case round =>
        clear oa bw hBw
        obtain ⟨c, a, cp, hc, rfl, rfl, rfl, bw, hBw, oa, ou⟩ := hrel
        rename World => wq
        by_cases hlt2 : c < 256
        · obtain ⟨r1, r2⟩ := Own.read oa (hasL_get b _ hlt2)
          have hup := upL_succ b c
          have hlen := upL_len b c
          obtain ⟨x, hx⟩ : ∃ x, UInt8.ofNat c = x := ⟨_, rfl⟩
          have hxn : (c : Int) = (x.toNat : Int) := by rw [← hx, UInt8.toNat_ofNat', Nat.mod_eq_of_lt (by omega)]
          rw [hx] at r1 hup
          have hci : (c : Int) < 256 := by omega
          have wc : IntKind.u8.wrap (c : Int) = (c : Int) := by rw [IntKind.wrap_u8]; omega
          obtain ⟨q, hq⟩ : ∃ q, b.contains x = q := ⟨_, rfl⟩
          rw [hq] at r1 hup
          have HXN := Lib.hid hxn; clear hxn hx
          cases q with
          | true =>
            rw [if_pos rfl] at hup
            have HUP := Lib.hid hup; clear hup
            clear hq
            generalize upL b c = V at *
            go_wp2_with (refine wpList_push rfl _ _ _ rfl elB rfl rfl ou (ys := [.int .u8 (c : Int)]) rfl (by simp [Value.oneCell']) (by unfold maxLen; omega) (by omega) (by omega) ?_; intro a4 c4 w4 o4 g4 n4)
            have b4 := Own.grown bw ou g4 (by omega) (by omega)
            have oa4 := oa.other g4 (fun z hz e => by cases hz; have := own_bOf ou e; omega)
            rw [HXN.out, show B8 V ++ [.int .u8 (x.toNat : Int)] = B8 (V ++ [x]) by simp [B8], ← HUP.out] at o4
            have hl2 : V.length + 1 = (upL b (c + 1)).length := by rw [HUP.out]; simp
            go_roundg (256 - (c + 1))
            case measure => omega
            case rel => exact ⟨c + 1, a4, c4, by omega, rfl, by rw [hl2], by simp, b4, Nat.lt_of_lt_of_le hBw g4.size, oa4, by rw [← hl2]; exact o4⟩
          | false =>
            rw [if_neg (by decide)] at hup
            have HUP := Lib.hid hup; clear hup
            clear hq
            go_wp2_with fail
            go_roundg (256 - (c + 1))
            case measure => omega
            case rel => exact ⟨c + 1, a, cp, by omega, rfl, by rw [HUP.out], by simp, bw, hBw, oa, by rw [HUP.out]; exact ou⟩
        · obtain rfl : c = 256 := by omega
          rw [← HU.out] at ou
          have hUl : (upL b 256).length = U.length := by rw [HU.out]
          have HUL := Lib.hid hUl; clear hUl
          go_wp2_with fail
          go_ret
          exact ⟨a, cp, by rw [← HUL.out]; rfl, ou.lower (by omega), bw⟩

set_option maxRecDepth 100000 in
set_option maxHeartbeats 2000000 in
theorem rdigits_law (w : World) (n : Nat) (hn : n ≤ 1000000) :
    Calls Try.prog 22 #[.int .i64 (n : Int)] w fun e w' => ∃ a c, e = .returned (.slice a (digL n).length c) ∧ Own w' 3 1 w.heap.size a (digL n).length c (N64 (digL n)) ∧ Below w.heap.size w w' := by
  obtain ⟨Z, hZ⟩ : ∃ Z, digL n = Z := ⟨_, rfl⟩
  rw [hZ]
  have hZl := digL_len n
  rw [hZ] at hZl
  have HZ := Lib.hid hZ; clear hZ
  go_enter Try.func22, Try.ntmps22
  go_wp2_with fail
  go_loopg [0, 3] n (fun k v0 v3 wr => ∃ (m : Nat) (ts : List Nat) (a : Option Addr) (c : Nat), m ≤ k ∧ m + ts.length ≤ n ∧ v0 = .int .i64 (m : Int) ∧ v3 = .slice a ts.length c ∧ Hid (ts ++ digL m = Z) ∧ Below w.heap.size w wr ∧ Own wr 3 1 w.heap.size a ts.length c (N64 ts))
  case atStart => exact ⟨n, [], none, 0, Nat.le_refl _, by simp, rfl, rfl, Lib.hid (by rw [HZ.out]; rfl), Below.refl _ _, Own.nil _ _ _ _⟩
  case round =>
    obtain ⟨m, ts, a, c, hmk, hmt, rfl, rfl, hts, bw, ow⟩ := hrel
    rename World => wr
    by_cases hm : 0 < m
    · have hd := digL_pos m hm
      obtain ⟨y, hy⟩ : ∃ y, (m - 1) / 2 = y := ⟨_, rfl⟩
      have hm1 : (0 : Int) < (m : Int) := by omega
      have hy2 : y < m := by omega
      by_cases hodd : m % 2 = 1
      · have hx0 : (m - 1) % 2 = 0 := by omega
        have t1 : ((m : Int) % 2 == 1) = true := by rw [beq_iff_eq]; omega
        have e2 : ((m : Int) - 1) / 2 = (y : Int) := by omega
        rw [hx0, hy] at hd
        have HD := Lib.hid hd; clear hd hy hx0 hodd
        go_wp2_with (refine wpList_push rfl _ _ _ rfl tI rfl rfl ow (ys := [.int .i64 0]) rfl (by simp [Value.oneCell']) (by unfold maxLen; omega) (by omega) bw.size ?_; intro a4 c4 w4 o4 g4 n4)
        have b4 := Own.grown bw ow g4 bw.size (Nat.le_refl _)
        rw [show N64 ts ++ [.int .i64 0] = N64 (ts ++ [0]) by simp [N64]] at o4
        go_roundg y
        case measure => omega
        case rel => exact ⟨y, ts ++ [0], a4, c4, Nat.le_refl _, by simp; omega, by first | rfl | rw [e2], by simp, Lib.hid (by rw [List.append_assoc, ← hts.out, HD.out]; rfl), b4, by simpa using o4⟩
      · have hx0 : (m - 1) % 2 = 1 := by omega
        have t1 : ((m : Int) % 2 == 1) = false := beq_eq_false_iff_ne.2 (by omega)
        have e2 : ((m : Int) - 2) / 2 = (y : Int) := by omega
        rw [hx0, hy] at hd
        have HD := Lib.hid hd; clear hd hy hx0 hodd
        go_wp2_with (refine wpList_push rfl _ _ _ rfl tI rfl rfl ow (ys := [.int .i64 1]) rfl (by simp [Value.oneCell']) (by unfold maxLen; omega) (by omega) bw.size ?_; intro a4 c4 w4 o4 g4 n4)
        have b4 := Own.grown bw ow g4 bw.size (Nat.le_refl _)
        rw [show N64 ts ++ [.int .i64 1] = N64 (ts ++ [1]) by simp [N64]] at o4
        go_roundg y
        case measure => omega
        case rel => exact ⟨y, ts ++ [1], a4, c4, Nat.le_refl _, by simp; omega, by first | rfl | rw [e2], by simp, Lib.hid (by rw [List.append_assoc, ← hts.out, HD.out]; rfl), b4, by simpa using o4⟩
    · obtain rfl : m = 0 := by omega
      have h2 := hts.out
      rw [digL_zero, List.append_nil] at h2
      subst h2
      go_wp2_with fail
      go_ret
      exact ⟨a, c, rfl, ow, bw⟩

set_option maxRecDepth 100000 in
set_option maxHeartbeats 2000000 in
theorem moved_law (w : World) (ad : Option Addr) (m cap : Nat) (ys : List UInt8) (hy : Rd w 1 ad m cap (B8 ys)) (k : Nat) (hk : k < m) (hm : m ≤ 1000000) :
    Calls Try.prog 24 #[.slice ad m cap, .int .i64 (k : Int)] w fun e w' => ∃ a c, e = .returned (.slice a m c) ∧ Own w' 5 1 w.heap.size a m c (B8 (mvd ys k)) ∧ Below w.heap.size w w' := by
  have hl := hy.len8
  obtain ⟨ne, cy⟩ := hy.get8 hk
  have hcut : ∀ W, (Instr.slice 22 (.slice ad m cap) (some (.int .i64 ((k : Int) + 1))) none none).run Try.prog W = .ok (.slice (cutA ad (k + 1) cap) (m - (k + 1)) (cap - (k + 1))) W := fun W => by
    have := run_cut (P := Try.prog) Try.underlying22 (by kernel_rfl) hy (k + 1) (by omega) W
    simpa using this
  obtain ⟨x, hx⟩ : ∃ x, at8 ys k = x := ⟨_, rfl⟩
  rw [hx] at cy
  have hz : B8 (mvd ys k) = [.int .u8 (x.toNat : Int)] ++ B8 (ys.take k) ++ B8 (ys.drop (k + 1)) := by
    unfold mvd; rw [hx]; simp [B8]
  rw [hz]
  have hnc := hy.ncap
  obtain ⟨Q, hQ⟩ : ∃ Q, cutA ad (k + 1) cap = Q := ⟨_, rfl⟩
  have rA := hy.to8 k (by omega)
  have rB := hy.from8 (k + 1) (by omega)
  rw [hQ] at hcut rB
  have o0 : Own (w.alloc (.cells #[.int .u8 (x.toNat : Int)] 5)) 5 1 w.heap.size (some ⟨w.heap.size, 0, none⟩) 1 1 [.int .u8 (x.toNat : Int)] :=
    ⟨⟨rfl, .inr ⟨w.heap.size, 1, #[.int .u8 (x.toNat : Int)], rfl, Nat.le_refl _, heap_alloc_new w _, Nat.le_refl _, by decide, rfl, rfl⟩⟩, fun u hu => by simp at hu; rw [hu]; rfl⟩
  have b0 := (Below.refl w.heap.size w).alloc (Nat.le_refl _) (.cells #[.int .u8 (x.toNat : Int)] 5)
  have rA0 := rA.below b0
  have hs0 : w.heap.size ≤ (w.alloc (.cells #[.int .u8 (x.toNat : Int)] 5)).heap.size := by simp
  have hkm : (k : Int) < (m : Int) := by omega
  clear hx hz hQ
  go_enter Try.func24, Try.ntmps24
  go_upto_region 3 with (refine wpList_app rfl _ _ _ rfl elB rfl rfl o0 rA0 (by unfold maxLen; omega) (by omega) hs0 ?_; intro a1 c1 w1 o1 g1 n1)
  have b1 := Own.grown b0 o0 g1 hs0 (Nat.le_refl _)
  have rB1 := rB.below b1
  go_wp2_with (refine wpList_app rfl _ _ _ rfl elB rfl rfl o1 rB1 (by unfold maxLen; omega) (by omega) b1.size ?_; intro a2 c2 w2 o2 g2 n2)
  have b2 := Own.grown b1 o1 g2 b1.size (Nat.le_refl _)
  have hlen : 1 + k + (m - (k + 1)) = m := by omega
  go_ret
  have e : Ending.returned (Value.slice a2 (1 + k + (m - (k + 1))) c2) = Ending.returned (Value.slice a2 m c2) := by rw [hlen]
  rw [hlen] at o2
  exact ⟨a2, c2, e, o2, b2⟩

/-- the places of bytes -/
def plL : List UInt8 → List UInt8 → List Nat
  | [], _ => []
  | c :: t, ys => pos8 ys c :: plL t (mvd ys (pos8 ys c))
theorem plL_len : ∀ (b ys : List UInt8), (plL b ys).length = b.length
  | [], _ => rfl
  | c :: t, ys => by rw [plL, List.length_cons, List.length_cons, plL_len]
theorem plL_drop {b ys : List UInt8} {i : Nat} {c : UInt8} (h : i < b.length) (hc : at8 b i = c) : plL (b.drop i) ys = pos8 ys c :: plL (b.drop (i + 1)) (mvd ys (pos8 ys c)) := by
  rw [List.drop_eq_getElem_cons h, plL]
  have : b[i] = c := by rw [← hc]; simp [at8, h, List.getD_eq_getElem?_getD]
  rw [this]
theorem pos8_ne : ∀ {ys : List UInt8} {c : UInt8} {k : Nat}, k < pos8 ys c → at8 ys k ≠ c
  | [], c, k, h => by simp [pos8] at h
  | y :: t, c, k, h => by
    unfold pos8 at h
    rw [List.idxOf_cons] at h
    by_cases e : y == c
    · simp [e] at h
    · simp [e] at h
      cases k with
      | zero => simp [at8]; intro h2; exact e (by simp [h2])
      | succ k => exact pos8_ne (ys := t) (by unfold pos8; omega)

set_option maxRecDepth 100000 in
set_option maxHeartbeats 4000000 in
theorem places_law (w : World) (ad : Option Addr) (m cap : Nat) (us : List UInt8) (hu : Rd w 1 ad m cap (B8 us)) (bd : Option Addr) (n cap2 : Nat) (b : List UInt8) (hb : Rd w 1 bd n cap2 (B8 b)) (hm : m ≤ 1000000) (hn : n ≤ 1000000) (hmem : ∀ x, x ∈ b → x ∈ us) :
    Calls Try.prog 21 #[.slice ad m cap, .slice bd n cap2] w fun e w' => ∃ a c, e = .returned (.slice a n c) ∧ Own w' 3 1 w.heap.size a n c (N64 (plL b us)) ∧ Below w.heap.size w w' := by
  have hl := hb.len8
  have hlu := hu.len8
  have hpl := plL_len b us
  obtain ⟨Z, hZ⟩ : ∃ Z, plL b us = Z := ⟨_, rfl⟩
  rw [hZ] at hpl ⊢
  rw [hl] at hpl
  have HL := Lib.hid hl; clear hl
  have HLU := Lib.hid hlu; clear hlu
  have HZ := Lib.hid hZ; clear hZ
  have HMEM := Lib.hid hmem; clear hmem
  have HPL := Lib.hid hpl; clear hpl
  go_enter Try.func21, Try.ntmps21
  go_wp2_with (refine wpList_clone rfl _ _ _ rfl elB rfl rfl hu (by unfold maxLen; omega) (by omega) ?_; intro a1 k1 w1 o1 b1 s1; clear s1)
  go_loopg [5, 6, 7] n (fun k v5 v6 v7 wr => ∃ (i : Nat) (ys : List UInt8) (S : List Nat) (a c a2 c2 : _) , i ≤ n ∧ n - i = k ∧ v5 = .slice a m c ∧ v6 = .slice a2 S.length c2 ∧ v7 = .int .i64 (i : Int) ∧ S.length = i ∧ Hid (S ++ plL (b.drop i) ys = Z) ∧ Hid (∀ x, x ∈ b → x ∈ ys) ∧ Below w.heap.size w wr ∧ Own wr 5 1 w.heap.size a m c (B8 ys) ∧ Own wr 3 1 w.heap.size a2 S.length c2 (N64 S) ∧ (∀ g, a = some ⟨g, 0, none⟩ → bOf a2 ≠ some g))
  case atStart => exact ⟨0, us, [], a1, k1, none, 0, Nat.zero_le _, rfl, rfl, rfl, rfl, rfl, Lib.hid (by rw [List.drop_zero, HZ.out]; rfl), HMEM, b1, o1, Own.nil _ _ _ _, fun g _ h => by cases h⟩
  case round =>
    clear o1 b1
    obtain ⟨i, ys, S, a, c, a2, c2, hin, rfl, rfl, rfl, rfl, hSl, hS, hmem, bw, oy, os, hsep⟩ := hrel
    rename World => wr
    have ry := oy.rd
    by_cases hlt : i < n
    · obtain ⟨x, hx⟩ : ∃ x, at8 b i = x := ⟨_, rfl⟩
      have hxm : x ∈ ys := hmem.out x (by rw [← hx]; exact at8_mem b i (by rw [HL.out]; exact hlt))
      have hpd := plL_drop (ys := ys) (by rw [HL.out]; exact hlt) hx
      have hkl := pos8_lt hxm
      have hka := pos8_at hxm
      have hne := fun k (h : k < pos8 ys x) => pos8_ne h
      have hyl := ry.len8
      rw [hyl] at hkl
      have hmv : ∀ z, z ∈ b → z ∈ mvd ys (pos8 ys x) := fun z hz => (mvd_mem ys _ (by omega) z).2 (hmem.out z hz)
      generalize pos8 ys x = q at *
      have HPD := Lib.hid hpd; clear hpd
      have HX := Lib.hid hx; clear hx
      have HKA := Lib.hid hka; clear hka
      have HNE := Lib.hid hne; clear hne
      have HMV := Lib.hid hmv; clear hmv
      have HYL := Lib.hid hyl; clear hyl
      have HSL := Lib.hid hSl; clear hSl
      go_upto_region 7 with fail
      go_loopg [8] q (fun kk v8 wq => ∃ t : Nat, t ≤ q ∧ q - t = kk ∧ v8 = .int .i64 (t : Int) ∧ Below wr.heap.size wr wq)
      case atStart => exact ⟨0, Nat.zero_le _, rfl, rfl, Below.refl _ _⟩
      case round =>
        obtain ⟨t, htq, rfl, rfl, bq⟩ := hrel
        rename World => wq
        obtain ⟨n1, c1⟩ := (ry.below bq).get8 (show t < m by omega)
        obtain ⟨n2, cb⟩ := (hb.below (bw.trans (bq.mono bw.size))).get8 hlt
        rw [HX.out] at cb
        obtain ⟨y, hy⟩ : ∃ y, (at8 ys t).toNat = y := ⟨_, rfl⟩
        obtain ⟨xn, hxn⟩ : ∃ xn, x.toNat = xn := ⟨_, rfl⟩
        rw [hy] at c1
        rw [hxn] at cb
        have htm : (t : Int) < (m : Int) := by omega
        have hin2 : (i : Int) < (n : Int) := by omega
        by_cases htq2 : t < q
        · have hyx : ¬ y = xn := fun e => HNE.out t htq2 (UInt8.toNat_inj.1 (by rw [hy, hxn, e]))
          have t1 : ((y : Int) == (xn : Int)) = false := beq_eq_false_iff_ne.2 (by omega)
          clear hy hxn
          go_upto_region 7 with fail
          (try simp only [List.append])
          refine wp_region_quiet_lit (by kernel_rfl) (by kernel_rfl) ?_
          repeat (go_big_quiet_step (fail))
          refine wpQuiet_nil ?_
          intro _ hw'
          obtain ⟨nq, hw''⟩ := hw'
          subst hw''
          have bn := bDraws bq nq
          clear c1 cb bq
          generalize wq.drewN nq = w5 at *
          go_wp2_with fail
          go_roundg (q - (t + 1))
          case measure => omega
          case rel => exact ⟨t + 1, by omega, rfl, by simp, bn⟩
        · obtain rfl : t = q := by omega
          have htm' : t < m := by omega
          have hyx : y = xn := by rw [← hy, ← hxn, HKA.out]
          subst hyx
          have t1 : ((y : Int) == (y : Int)) = true := by simp
          clear hy hxn
          go_upto_region 7 with fail
          (try simp only [List.append])
          refine wp_region_quiet_lit (by kernel_rfl) (by kernel_rfl) ?_
          repeat (go_big_quiet_step (fail))
          refine wpQuiet_nil ?_
          intro _ hw'
          obtain ⟨nq, hw''⟩ := hw'
          subst hw''
          have bn := bDraws bq nq
          clear c1 cb bq
          generalize wq.drewN nq = w5 at *
          have os5 := os.below bn
          have oy5 := oy.below bn
          have bw5 := bw.trans (bn.mono bw.size)
          clear os ry oy bw bn
          have hSb : S.length ≤ 1000000 := by have := HSL.out; omega
          go_upto_region 10 with (refine wpList_push rfl _ _ _ rfl tI rfl rfl os5 (ys := [.int .i64 (t : Int)]) rfl (by simp [Value.oneCell']) (by unfold maxLen; omega) (by omega) bw5.size ?_; intro a6 c6 w6 o6 g6 n6)
          have b6 := Own.grown bw5 os5 g6 bw5.size (Nat.le_refl _)
          have oy6 := oy5.other g6 hsep
          rw [N64_snoc] at o6
          have hm6 := moved_law w6 a m c ys oy6.rd t htm' hm
          have hblk6 : ∀ g, bOf a6 = some g → g < w6.heap.size := fun g hg => by
            obtain ⟨_, hc⟩ := o6.cases
            rcases hc with ⟨h1, _⟩ | ⟨g', cur, h1, _, hgc, _⟩
            · rw [h1] at hg; cases hg
            · rw [h1] at hg; simp [bOf] at hg; subst hg; exact (Array.getElem?_eq_some_iff.1 hgc).1
          clear os5 oy5 bw5 g6 n6 oy6
          go_wp2_with (refine hm6.mono ?_; rintro e w7 ⟨a7, c7, rfl, o7, b7⟩)
          have b8 := b6.trans (b7.mono b6.size)
          have os8 := o6.below b7
          have hlen : S.length + 1 = (S ++ [t]).length := by simp
          go_roundg (n - (i + 1))
          case measure => omega
          case rel =>
            refine ⟨i + 1, mvd ys t, S ++ [t], a7, c7, a6, c6, by omega, rfl, rfl, by rw [hlen], by simp, by rw [← hlen, HSL.out], Lib.hid ?_, HMV, b8, o7.lower b6.size, by rw [← hlen]; exact os8, fun g hg e => ?_⟩
            · rw [← hS.out, HPD.out]; simp
            · have h1 := (o7.blk hg).1
              have h2 := hblk6 g e
              omega
    · obtain rfl : i = n := by omega
      have hZe := hS.out
      rw [List.drop_of_length_le (by rw [HL.out]; exact Nat.le_refl _), plL, List.append_nil] at hZe
      subst hZe
      have HSL := Lib.hid hSl; clear hSl
      go_wp2_with fail
      go_ret
      have e : Ending.returned (Value.slice a2 S.length c2) = Ending.returned (Value.slice a2 i c2) := by rw [HSL.out]
      rw [HSL.out] at os
      exact ⟨a2, c2, e, os, bw⟩
end Go.Proofs.Ytindbmfccgeikaa
