/- The document's Say, Unpack: the walks. -/
import Derived.Test.YtjlhhbbciaeggaaRleH
namespace Go.Proofs.Ytjlhhbbciaeggaa
set_option linter.unusedSimpArgs false
set_option linter.unusedVariables false
open Go.RowKit
theorem say_nil : say [] = [] := rfl

set_option maxRecDepth 100000 in
set_option maxHeartbeats 4000000 in
theorem refSay_law (w : World) (ad : Option Addr) (n cap : Nat) (p : List UInt8) (hb : Rd w 1 ad n cap (B8 p)) (hn : n ≤ 10000) :
    Calls Try.prog 20 #[.slice ad n cap] w fun e w' => ∃ a c, e = .returned (.slice a (say p).length c) ∧ Own w' 5 1 w.heap.size a (say p).length c (B8 (say p)) ∧ Below w.heap.size w w' := by
  have hl := hb.len8
  have HL := Lib.hid hl; clear hl
  obtain ⟨B, hB⟩ : ∃ B, w.heap.size = B := ⟨_, rfl⟩
  rw [hB]
  have hbB : Below B w w := by rw [← hB]; exact Below.refl _ _
  go_enter Try.func20, Try.ntmps20
  go_wp2_with fail
  go_loopg [3, 4] n (fun gk ov i wr => ∃ j : Nat, j ≤ n ∧ gk = n - j ∧ i = .int .i64 (j : Int) ∧ Below B w wr ∧ ∃ o : List UInt8, o.length ≤ 255 * j ∧ Hid (o ++ say (p.drop j) = say p) ∧ ∃ a c, ov = .slice a o.length c ∧ Own wr 5 1 B a o.length c (B8 o))
  case atStart => exact ⟨0, Nat.zero_le _, by simp, rfl, hbB, [], by simp, Lib.hid rfl, none, 0, rfl, Own.nil _ _ _ _⟩
  case round =>
    clear hbB
    obtain ⟨j, hj, rfl, rfl, hbw, o, hol, hsay, a, c, rfl, oo⟩ := hrel
    rename World => wo
    by_cases hlt : j < n
    · obtain ⟨x, hx⟩ : ∃ x, at8 p j = x := ⟨_, rfl⟩
      have hx0 : at8 (p.drop j) 0 = x := by rw [← hx]; simp [at8]
      obtain ⟨r, hr⟩ : ∃ r, runF 4 x (p.drop j) = r := ⟨_, rfl⟩
      obtain ⟨L, hL⟩ : ∃ L, o.length = L := ⟨_, rfl⟩
      rw [hL] at hol oo ⊢
      have hr4 : r ≤ 4 := by have := (runF_le x 4 (p.drop j)).1; rwa [hr] at this
      have hdl : (p.drop j).length = n - j := by rw [List.length_drop, HL.out]
      have hst : ∀ y, y ≤ r → (y < r ↔ j + y < n ∧ y < 4 ∧ at8 p (j + y) = x) := fun y hy => by
        have := runF_step x 4 (p.drop j) y (by rw [hr]; exact hy)
        rw [hr, hdl] at this
        rw [this]
        have e : at8 (p.drop j) y = at8 p (j + y) := by simp [at8]
        rw [e]
        constructor <;> rintro ⟨h1, h2, h3⟩ <;> exact ⟨by omega, h2, h3⟩
      have HLL := Lib.hid hL; clear hL
      have HX0 := Lib.hid hx0; clear hx0
      have hr0 : 0 < r := (hst 0 (Nat.zero_le _)).2 ⟨hlt, by omega, hx⟩
      have hrn : j + r ≤ n := by have := (runF_le x 4 (p.drop j)).2; rw [hr, hdl] at this; omega
      have HRN : Hid (0 < r ∧ j + r ≤ n) := Lib.hid ⟨hr0, hrn⟩
      clear hr0 hrn
      have HX := Lib.hid hx; clear hx
      have HR := Lib.hid hr; clear hr
      have HST := Lib.hid hst; clear hst
      clear hdl
      have hjn : (j : Int) < (n : Int) := by omega
      go_wp2_with fail
      go_loopg [5] 5 (fun gk v wr => ∃ y : Nat, y ≤ r ∧ gk = 5 - y ∧ v = .int .i64 (y : Int) ∧ Below B w wr ∧ Own wr 5 1 B a L c (B8 o))
      case atStart => exact ⟨0, Nat.zero_le _, rfl, rfl, hbw, oo⟩
      case round =>
        clear hbw oo
        obtain ⟨y, hyr, rfl, rfl, hbw2, oo2⟩ := hrel
        rename World => wi
        have hstep := HST.out y hyr
        have hp2 := hb.below (show Below w.heap.size w wi by rw [hB]; exact hbw2)
        obtain ⟨nx, cx0⟩ := hp2.get8 hlt
        rw [HX.out] at cx0
        obtain ⟨jy, hjy⟩ : ∃ jy, j + y = jy := ⟨_, rfl⟩
        rw [hjy] at hstep
        have e1 : (j : Int) + (y : Int) = (jy : Int) := by omega
        have w1 : IntKind.i64.wrap (jy : Int) = (jy : Int) := IntWalk.i64_in _ (by omega)
        by_cases h4 : y < 4
        · have t1 : decide ((y : Int) < 4) = true := deT (by omega)
          by_cases h5 : jy < n
          · have t2 : decide ((jy : Int) < (n : Int)) = true := deT (by omega)
            have hjyn : (jy : Int) < (n : Int) := by omega
            obtain ⟨_, cy⟩ := hp2.get8 h5
            clear hp2
            by_cases h6 : at8 p jy = x
            · rw [h6] at cy
              have hlt2 := hstep.2 ⟨h5, h4, h6⟩
              clear hstep h6
              go_upto_region 5 with fail
              (try simp only [List.append])
              refine wp_region_quiet_lit (by kernel_rfl) (by kernel_rfl) ?_
              repeat (go_big_quiet_step (fail))
              refine wpQuiet_nil ?_
              intro _ hw'
              obtain ⟨nq, hw''⟩ := hw'
              subst hw''
              have hb5 := bDraws hbw2 nq
              have o5 := ownDraws oo2 nq
              clear hbw2 oo2 cy cx0
              generalize wi.drewN nq = w5 at *
              go_wp2_with fail
              go_roundg (5 - (y + 1))
              case measure => omega
              case rel => exact ⟨y + 1, hlt2, rfl, by simp, hb5, o5⟩
            · have t3 : (((at8 p jy).toNat : Int) == (x.toNat : Int)) = false := by rw [beq_eq_false_iff_ne]; intro h; exact h6 (UInt8.toNat_inj.1 (by omega))
              replace hstep : ¬ y < r := fun h => h6 (hstep.1 h).2.2
              go_upto_region 5 with fail
              have hyr : y = r := by have := hstep; omega
              subst hyr
              clear hstep
              (try simp only [List.append])
              refine wp_region_quiet_lit (by kernel_rfl) (by kernel_rfl) ?_
              repeat (go_big_quiet_step (fail))
              refine wpQuiet_nil ?_
              intro _ hw'
              obtain ⟨nq, hw''⟩ := hw'
              subst hw''
              have hb5 := bDraws hbw2 nq
              have o5 := ownDraws oo2 nq
              clear hbw2 oo2 cx0 w1
              try clear cy
              generalize wi.drewN nq = w5 at *
              go_wp2_with fail
              go_loopg [3, 6] y (fun gk ov v wr => ∃ k : Nat, k ≤ y ∧ gk = y - k ∧ v = .int .i64 (k : Int) ∧ Below B w wr ∧ ∃ a c, ov = .slice a (L + k) c ∧ Own wr 5 1 B a (L + k) c (B8 (o ++ List.replicate k x)))
              case atStart => exact ⟨0, Nat.zero_le _, by simp, rfl, hb5, a, c, rfl, by simpa using o5⟩
              case round =>
                clear o5 hb5
                obtain ⟨k, hk, rfl, rfl, hb6, a6, c6, rfl, o6⟩ := hrel
                rename World => wr
                have hB6 : B ≤ wr.heap.size := by have := hb6.size; omega
                have hp6 := hb.below (show Below w.heap.size w wr by rw [hB]; exact hb6)
                by_cases hky : k < y
                · obtain ⟨_, cz⟩ := hp6.get8 hlt
                  rw [HX.out] at cz
                  have H1 : Hid (L + k + 1 ≤ maxLen) := Lib.hid (by unfold maxLen; omega)
                  have H2 : Hid ((L + k + 1) * 1 ≤ 140737488355328) := Lib.hid (by omega)
                  go_wp2_with (refine wpList_push rfl _ _ _ rfl elB rfl rfl o6 (ys := [.int .u8 (x.toNat : Int)]) rfl (by simp [Value.oneCell']) H1.out H2.out hB6 ?_; intro a' c' w1 o1 r1 _)
                  go_roundg (y - (k + 1))
                  case measure => omega
                  case rel => exact ⟨k + 1, by omega, rfl, by simp, Own.grown hb6 o6 r1 hB6 (Nat.le_refl _), a', c', rfl, by rw [List.replicate_succ', ← List.append_assoc, ← B8_app]; exact o1⟩
                · obtain rfl : k = y := by omega
                  clear hk hky
                  by_cases hcn : k = 4 ∧ j + 4 < n
                  · obtain ⟨hk4, hj4⟩ := hcn
                    try (exfalso; omega)
                    all_goals
                      have hsc := say_count (p.drop j) (by rw [List.length_drop, HL.out]; omega) (by rw [HX0.out, HR.out]; exact hk4)
                      have h4 : at8 (p.drop j) 4 = at8 p (j + 4) := by simp [at8]
                      rw [h4, HX0.out, List.drop_drop] at hsc
                      obtain ⟨j4, hj4e⟩ : ∃ j4, j + 4 = j4 := ⟨_, rfl⟩
                      rw [hj4e] at hj4 hsc
                      obtain ⟨_, cz⟩ := hp6.get8 hj4
                      obtain ⟨z, hz⟩ : ∃ z, at8 p j4 = z := ⟨_, rfl⟩
                      rw [hz] at hsc cz
                      have hz255 : z.toNat ≤ 255 := by have := z.toNat_lt; omega
                      obtain ⟨zn, hzn⟩ : ∃ zn, z.toNat = zn := ⟨_, rfl⟩
                      rw [hzn] at hsc cz hz255
                      have ej4 : (j : Int) + 4 = (j4 : Int) := by omega
                      obtain ⟨j5, hj5e⟩ : ∃ j5, j + 5 = j5 := ⟨_, rfl⟩
                      rw [hj5e] at hsc
                      have ej5 : (j : Int) + 5 = (j5 : Int) := by omega
                      have hj4n : (j4 : Int) < (n : Int) := by omega
                      have hj4n2 : decide ((j4 : Int) < (n : Int)) = true := deT hj4n
                      have hkeq : ((k : Int) == 4) = true := by rw [hk4]; rfl
                      have hL4 : L + k = L + 4 := by rw [hk4]
                      rw [hL4] at o6
                      have hrep : List.replicate k x = List.replicate 4 x := by rw [hk4]
                      rw [hrep] at o6
                      have HS := Lib.hid hsc; clear hsc h4 hrep
                      have HZ := Lib.hid hz; clear hz
                      have HZN := Lib.hid hzn; clear hzn
                      have HJ5 := Lib.hid hj5e; clear hj5e
                      have HJ4 := Lib.hid hj4e; clear hj4e
                      have HK4 := Lib.hid hk4; clear hk4 cz
                      have hlv : .slice a6 (L + k) c6 = Value.slice a6 (L + 4) c6 := by rw [hL4]
                      rw [hlv]
                      clear hL4 hlv
                      go_wp2_with fail
                      go_loopg [3, 7] zn (fun gk ov v wr => ∃ q : Nat, q ≤ zn ∧ gk = zn - q ∧ v = .int .i64 (q : Int) ∧ Below B w wr ∧ ∃ a c, ov = .slice a (L + 4 + q) c ∧ Own wr 5 1 B a (L + 4 + q) c (B8 (o ++ List.replicate 4 x ++ List.replicate q x)))
                      case atStart => exact ⟨0, Nat.zero_le _, by simp, rfl, hb6, a6, c6, rfl, by simpa using o6⟩
                      case round =>
                        clear o6 hb6 hp6
                        obtain ⟨q, hq, rfl, rfl, hb6, a6, c6, rfl, o6⟩ := hrel
                        rename World => wr
                        have hB6 : B ≤ wr.heap.size := by have := hb6.size; omega
                        have hp6 := hb.below (show Below w.heap.size w wr by rw [hB]; exact hb6)
                        obtain ⟨nz, cz⟩ := hp6.get8 hj4
                        rw [HZ.out, HZN.out] at cz
                        obtain ⟨_, cq⟩ := hp6.get8 hlt
                        rw [HX.out] at cq
                        clear hp6
                        by_cases hkz : q < zn
                        · have hkz2 : (q : Int) < (zn : Int) := Int.ofNat_lt.2 hkz
                          have H1 : Hid (L + 4 + q + 1 ≤ maxLen) := Lib.hid (by unfold maxLen; omega)
                          have H2 : Hid ((L + 4 + q + 1) * 1 ≤ 140737488355328) := Lib.hid (by omega)
                          go_wp2_with (refine wpList_push rfl _ _ _ rfl elB rfl rfl o6 (ys := [.int .u8 (x.toNat : Int)]) rfl (by simp [Value.oneCell']) H1.out H2.out hB6 ?_; intro a' c' w1 o1 r1 _)
                          go_roundg (zn - (q + 1))
                          case measure => omega
                          case rel => exact ⟨q + 1, by omega, rfl, by simp, Own.grown hb6 o6 r1 hB6 (Nat.le_refl _), a', c', rfl, by rw [List.replicate_succ' (n := q), ← List.append_assoc, ← B8_app]; exact o1⟩
                        · have hkz2 : ¬ (q : Int) < (zn : Int) := fun h => hkz (Int.ofNat_lt.1 h)
                          have hke : q = zn := Nat.le_antisymm hq (Nat.not_lt.1 hkz)
                          have hlen2 : (o ++ List.replicate 4 x ++ List.replicate q x).length = L + 4 + q := by rw [List.length_append, List.length_append, HLL.out, List.length_replicate, List.length_replicate]
                          have HT := Lib.hid hlen2; clear hlen2
                          go_wp2_with fail
                          go_roundg (n - j5)
                          case measure => have := HJ5.out; omega
                          case rel => exact ⟨j5, by have := HJ5.out; have := HJ4.out; omega, rfl, rfl, hb6, o ++ List.replicate 4 x ++ List.replicate q x, by rw [HT.out]; have := HJ5.out; omega, Lib.hid (by rw [← hsay.out, HS.out, hke]; simp), a6, c6, by rw [HT.out, hke], by rw [HT.out]; exact o6⟩
                  · have hsc := say_short (p.drop j) (by rw [List.length_drop, HL.out]; omega) k (by rw [HX0.out]; exact HR.out) (by rw [List.length_drop, HL.out]; omega)
                    rw [HX0.out, List.drop_drop] at hsc
                    rw [hjy] at hsc
                    have HS := Lib.hid hsc; clear hsc
                    have hkp : 0 < k ∧ jy ≤ n := ⟨HRN.out.1, by rw [← hjy]; exact HRN.out.2⟩
                    have HJK := Lib.hid hjy; clear hjy
                    clear hp6
                    by_cases hk4 : k = 4
                    · have hkeq : ((k : Int) == 4) = true := by rw [hk4]; rfl
                      have hj4n2 : decide (((j : Int) + 4) < (n : Int)) = false := deF (by omega)
                      have HK4 := Lib.hid hk4; clear hk4 hcn
                      go_wp2_with fail
                      go_roundg (n - jy)
                      case measure => have := HJK.out; omega
                      case rel => exact ⟨jy, hkp.2, rfl, rfl, hb6, o ++ List.replicate k x, by simp; have := HJK.out; have := HLL.out; omega, Lib.hid (by rw [← hsay.out, HS.out]; simp), a6, c6, by simp [HLL.out], by simpa [HLL.out] using o6⟩
                    · have hkeq : ((k : Int) == 4) = false := beq_eq_false_iff_ne.2 (by omega)
                      clear hcn
                      go_wp2_with fail
                      go_roundg (n - jy)
                      case measure => have := HJK.out; omega
                      case rel => exact ⟨jy, hkp.2, rfl, rfl, hb6, o ++ List.replicate k x, by simp; have := HJK.out; have := HLL.out; omega, Lib.hid (by rw [← hsay.out, HS.out]; simp), a6, c6, by simp [HLL.out], by simpa [HLL.out] using o6⟩
          · have t2 : decide ((jy : Int) < (n : Int)) = false := deF (by omega)
            replace hstep : ¬ y < r := fun h => h5 (hstep.1 h).1
            clear hp2
            go_upto_region 5 with fail
            have hyr : y = r := by have := hstep; omega
            subst hyr
            clear hstep
            (try simp only [List.append])
            refine wp_region_quiet_lit (by kernel_rfl) (by kernel_rfl) ?_
            repeat (go_big_quiet_step (fail))
            refine wpQuiet_nil ?_
            intro _ hw'
            obtain ⟨nq, hw''⟩ := hw'
            subst hw''
            have hb5 := bDraws hbw2 nq
            have o5 := ownDraws oo2 nq
            clear hbw2 oo2 cx0 w1
            try clear cy
            generalize wi.drewN nq = w5 at *
            go_wp2_with fail
            go_loopg [3, 6] y (fun gk ov v wr => ∃ k : Nat, k ≤ y ∧ gk = y - k ∧ v = .int .i64 (k : Int) ∧ Below B w wr ∧ ∃ a c, ov = .slice a (L + k) c ∧ Own wr 5 1 B a (L + k) c (B8 (o ++ List.replicate k x)))
            case atStart => exact ⟨0, Nat.zero_le _, by simp, rfl, hb5, a, c, rfl, by simpa using o5⟩
            case round =>
              clear o5 hb5
              obtain ⟨k, hk, rfl, rfl, hb6, a6, c6, rfl, o6⟩ := hrel
              rename World => wr
              have hB6 : B ≤ wr.heap.size := by have := hb6.size; omega
              have hp6 := hb.below (show Below w.heap.size w wr by rw [hB]; exact hb6)
              by_cases hky : k < y
              · obtain ⟨_, cz⟩ := hp6.get8 hlt
                rw [HX.out] at cz
                have H1 : Hid (L + k + 1 ≤ maxLen) := Lib.hid (by unfold maxLen; omega)
                have H2 : Hid ((L + k + 1) * 1 ≤ 140737488355328) := Lib.hid (by omega)
                go_wp2_with (refine wpList_push rfl _ _ _ rfl elB rfl rfl o6 (ys := [.int .u8 (x.toNat : Int)]) rfl (by simp [Value.oneCell']) H1.out H2.out hB6 ?_; intro a' c' w1 o1 r1 _)
                go_roundg (y - (k + 1))
                case measure => omega
                case rel => exact ⟨k + 1, by omega, rfl, by simp, Own.grown hb6 o6 r1 hB6 (Nat.le_refl _), a', c', rfl, by rw [List.replicate_succ', ← List.append_assoc, ← B8_app]; exact o1⟩
              · obtain rfl : k = y := by omega
                clear hk hky
                by_cases hcn : k = 4 ∧ j + 4 < n
                · obtain ⟨hk4, hj4⟩ := hcn
                  try (exfalso; omega)
                  all_goals
                    have hsc := say_count (p.drop j) (by rw [List.length_drop, HL.out]; omega) (by rw [HX0.out, HR.out]; exact hk4)
                    have h4 : at8 (p.drop j) 4 = at8 p (j + 4) := by simp [at8]
                    rw [h4, HX0.out, List.drop_drop] at hsc
                    obtain ⟨j4, hj4e⟩ : ∃ j4, j + 4 = j4 := ⟨_, rfl⟩
                    rw [hj4e] at hj4 hsc
                    obtain ⟨_, cz⟩ := hp6.get8 hj4
                    obtain ⟨z, hz⟩ : ∃ z, at8 p j4 = z := ⟨_, rfl⟩
                    rw [hz] at hsc cz
                    have hz255 : z.toNat ≤ 255 := by have := z.toNat_lt; omega
                    obtain ⟨zn, hzn⟩ : ∃ zn, z.toNat = zn := ⟨_, rfl⟩
                    rw [hzn] at hsc cz hz255
                    have ej4 : (j : Int) + 4 = (j4 : Int) := by omega
                    obtain ⟨j5, hj5e⟩ : ∃ j5, j + 5 = j5 := ⟨_, rfl⟩
                    rw [hj5e] at hsc
                    have ej5 : (j : Int) + 5 = (j5 : Int) := by omega
                    have hj4n : (j4 : Int) < (n : Int) := by omega
                    have hj4n2 : decide ((j4 : Int) < (n : Int)) = true := deT hj4n
                    have hkeq : ((k : Int) == 4) = true := by rw [hk4]; rfl
                    have hL4 : L + k = L + 4 := by rw [hk4]
                    rw [hL4] at o6
                    have hrep : List.replicate k x = List.replicate 4 x := by rw [hk4]
                    rw [hrep] at o6
                    have HS := Lib.hid hsc; clear hsc h4 hrep
                    have HZ := Lib.hid hz; clear hz
                    have HZN := Lib.hid hzn; clear hzn
                    have HJ5 := Lib.hid hj5e; clear hj5e
                    have HJ4 := Lib.hid hj4e; clear hj4e
                    have HK4 := Lib.hid hk4; clear hk4 cz
                    have hlv : .slice a6 (L + k) c6 = Value.slice a6 (L + 4) c6 := by rw [hL4]
                    rw [hlv]
                    clear hL4 hlv
                    go_wp2_with fail
                    go_loopg [3, 7] zn (fun gk ov v wr => ∃ q : Nat, q ≤ zn ∧ gk = zn - q ∧ v = .int .i64 (q : Int) ∧ Below B w wr ∧ ∃ a c, ov = .slice a (L + 4 + q) c ∧ Own wr 5 1 B a (L + 4 + q) c (B8 (o ++ List.replicate 4 x ++ List.replicate q x)))
                    case atStart => exact ⟨0, Nat.zero_le _, by simp, rfl, hb6, a6, c6, rfl, by simpa using o6⟩
                    case round =>
                      clear o6 hb6 hp6
                      obtain ⟨q, hq, rfl, rfl, hb6, a6, c6, rfl, o6⟩ := hrel
                      rename World => wr
                      have hB6 : B ≤ wr.heap.size := by have := hb6.size; omega
                      have hp6 := hb.below (show Below w.heap.size w wr by rw [hB]; exact hb6)
                      obtain ⟨nz, cz⟩ := hp6.get8 hj4
                      rw [HZ.out, HZN.out] at cz
                      obtain ⟨_, cq⟩ := hp6.get8 hlt
                      rw [HX.out] at cq
                      clear hp6
                      by_cases hkz : q < zn
                      · have hkz2 : (q : Int) < (zn : Int) := Int.ofNat_lt.2 hkz
                        have H1 : Hid (L + 4 + q + 1 ≤ maxLen) := Lib.hid (by unfold maxLen; omega)
                        have H2 : Hid ((L + 4 + q + 1) * 1 ≤ 140737488355328) := Lib.hid (by omega)
                        go_wp2_with (refine wpList_push rfl _ _ _ rfl elB rfl rfl o6 (ys := [.int .u8 (x.toNat : Int)]) rfl (by simp [Value.oneCell']) H1.out H2.out hB6 ?_; intro a' c' w1 o1 r1 _)
                        go_roundg (zn - (q + 1))
                        case measure => omega
                        case rel => exact ⟨q + 1, by omega, rfl, by simp, Own.grown hb6 o6 r1 hB6 (Nat.le_refl _), a', c', rfl, by rw [List.replicate_succ' (n := q), ← List.append_assoc, ← B8_app]; exact o1⟩
                      · have hkz2 : ¬ (q : Int) < (zn : Int) := fun h => hkz (Int.ofNat_lt.1 h)
                        have hke : q = zn := Nat.le_antisymm hq (Nat.not_lt.1 hkz)
                        have hlen2 : (o ++ List.replicate 4 x ++ List.replicate q x).length = L + 4 + q := by rw [List.length_append, List.length_append, HLL.out, List.length_replicate, List.length_replicate]
                        have HT := Lib.hid hlen2; clear hlen2
                        go_wp2_with fail
                        go_roundg (n - j5)
                        case measure => have := HJ5.out; omega
                        case rel => exact ⟨j5, by have := HJ5.out; have := HJ4.out; omega, rfl, rfl, hb6, o ++ List.replicate 4 x ++ List.replicate q x, by rw [HT.out]; have := HJ5.out; omega, Lib.hid (by rw [← hsay.out, HS.out, hke]; simp), a6, c6, by rw [HT.out, hke], by rw [HT.out]; exact o6⟩
                · have hsc := say_short (p.drop j) (by rw [List.length_drop, HL.out]; omega) k (by rw [HX0.out]; exact HR.out) (by rw [List.length_drop, HL.out]; omega)
                  rw [HX0.out, List.drop_drop] at hsc
                  rw [hjy] at hsc
                  have HS := Lib.hid hsc; clear hsc
                  have hkp : 0 < k ∧ jy ≤ n := ⟨HRN.out.1, by rw [← hjy]; exact HRN.out.2⟩
                  have HJK := Lib.hid hjy; clear hjy
                  clear hp6
                  by_cases hk4 : k = 4
                  · have hkeq : ((k : Int) == 4) = true := by rw [hk4]; rfl
                    have hj4n2 : decide (((j : Int) + 4) < (n : Int)) = false := deF (by omega)
                    have HK4 := Lib.hid hk4; clear hk4 hcn
                    go_wp2_with fail
                    go_roundg (n - jy)
                    case measure => have := HJK.out; omega
                    case rel => exact ⟨jy, hkp.2, rfl, rfl, hb6, o ++ List.replicate k x, by simp; have := HJK.out; have := HLL.out; omega, Lib.hid (by rw [← hsay.out, HS.out]; simp), a6, c6, by simp [HLL.out], by simpa [HLL.out] using o6⟩
                  · have hkeq : ((k : Int) == 4) = false := beq_eq_false_iff_ne.2 (by omega)
                    clear hcn
                    go_wp2_with fail
                    go_roundg (n - jy)
                    case measure => have := HJK.out; omega
                    case rel => exact ⟨jy, hkp.2, rfl, rfl, hb6, o ++ List.replicate k x, by simp; have := HJK.out; have := HLL.out; omega, Lib.hid (by rw [← hsay.out, HS.out]; simp), a6, c6, by simp [HLL.out], by simpa [HLL.out] using o6⟩
        · have t1 : decide ((y : Int) < 4) = false := deF (by omega)
          replace hstep : ¬ y < r := fun h => h4 (hstep.1 h).2.1
          clear hp2
          go_upto_region 5 with fail
          have hyr : y = r := by have := hstep; omega
          subst hyr
          clear hstep
          (try simp only [List.append])
          refine wp_region_quiet_lit (by kernel_rfl) (by kernel_rfl) ?_
          repeat (go_big_quiet_step (fail))
          refine wpQuiet_nil ?_
          intro _ hw'
          obtain ⟨nq, hw''⟩ := hw'
          subst hw''
          have hb5 := bDraws hbw2 nq
          have o5 := ownDraws oo2 nq
          clear hbw2 oo2 cx0 w1
          try clear cy
          generalize wi.drewN nq = w5 at *
          go_wp2_with fail
          go_loopg [3, 6] y (fun gk ov v wr => ∃ k : Nat, k ≤ y ∧ gk = y - k ∧ v = .int .i64 (k : Int) ∧ Below B w wr ∧ ∃ a c, ov = .slice a (L + k) c ∧ Own wr 5 1 B a (L + k) c (B8 (o ++ List.replicate k x)))
          case atStart => exact ⟨0, Nat.zero_le _, by simp, rfl, hb5, a, c, rfl, by simpa using o5⟩
          case round =>
            clear o5 hb5
            obtain ⟨k, hk, rfl, rfl, hb6, a6, c6, rfl, o6⟩ := hrel
            rename World => wr
            have hB6 : B ≤ wr.heap.size := by have := hb6.size; omega
            have hp6 := hb.below (show Below w.heap.size w wr by rw [hB]; exact hb6)
            by_cases hky : k < y
            · obtain ⟨_, cz⟩ := hp6.get8 hlt
              rw [HX.out] at cz
              have H1 : Hid (L + k + 1 ≤ maxLen) := Lib.hid (by unfold maxLen; omega)
              have H2 : Hid ((L + k + 1) * 1 ≤ 140737488355328) := Lib.hid (by omega)
              go_wp2_with (refine wpList_push rfl _ _ _ rfl elB rfl rfl o6 (ys := [.int .u8 (x.toNat : Int)]) rfl (by simp [Value.oneCell']) H1.out H2.out hB6 ?_; intro a' c' w1 o1 r1 _)
              go_roundg (y - (k + 1))
              case measure => omega
              case rel => exact ⟨k + 1, by omega, rfl, by simp, Own.grown hb6 o6 r1 hB6 (Nat.le_refl _), a', c', rfl, by rw [List.replicate_succ', ← List.append_assoc, ← B8_app]; exact o1⟩
            · obtain rfl : k = y := by omega
              clear hk hky
              by_cases hcn : k = 4 ∧ j + 4 < n
              · obtain ⟨hk4, hj4⟩ := hcn
                try (exfalso; omega)
                all_goals
                  have hsc := say_count (p.drop j) (by rw [List.length_drop, HL.out]; omega) (by rw [HX0.out, HR.out]; exact hk4)
                  have h4 : at8 (p.drop j) 4 = at8 p (j + 4) := by simp [at8]
                  rw [h4, HX0.out, List.drop_drop] at hsc
                  obtain ⟨j4, hj4e⟩ : ∃ j4, j + 4 = j4 := ⟨_, rfl⟩
                  rw [hj4e] at hj4 hsc
                  obtain ⟨_, cz⟩ := hp6.get8 hj4
                  obtain ⟨z, hz⟩ : ∃ z, at8 p j4 = z := ⟨_, rfl⟩
                  rw [hz] at hsc cz
                  have hz255 : z.toNat ≤ 255 := by have := z.toNat_lt; omega
                  obtain ⟨zn, hzn⟩ : ∃ zn, z.toNat = zn := ⟨_, rfl⟩
                  rw [hzn] at hsc cz hz255
                  have ej4 : (j : Int) + 4 = (j4 : Int) := by omega
                  obtain ⟨j5, hj5e⟩ : ∃ j5, j + 5 = j5 := ⟨_, rfl⟩
                  rw [hj5e] at hsc
                  have ej5 : (j : Int) + 5 = (j5 : Int) := by omega
                  have hj4n : (j4 : Int) < (n : Int) := by omega
                  have hj4n2 : decide ((j4 : Int) < (n : Int)) = true := deT hj4n
                  have hkeq : ((k : Int) == 4) = true := by rw [hk4]; rfl
                  have hL4 : L + k = L + 4 := by rw [hk4]
                  rw [hL4] at o6
                  have hrep : List.replicate k x = List.replicate 4 x := by rw [hk4]
                  rw [hrep] at o6
                  have HS := Lib.hid hsc; clear hsc h4 hrep
                  have HZ := Lib.hid hz; clear hz
                  have HZN := Lib.hid hzn; clear hzn
                  have HJ5 := Lib.hid hj5e; clear hj5e
                  have HJ4 := Lib.hid hj4e; clear hj4e
                  have HK4 := Lib.hid hk4; clear hk4 cz
                  have hlv : .slice a6 (L + k) c6 = Value.slice a6 (L + 4) c6 := by rw [hL4]
                  rw [hlv]
                  clear hL4 hlv
                  go_wp2_with fail
                  go_loopg [3, 7] zn (fun gk ov v wr => ∃ q : Nat, q ≤ zn ∧ gk = zn - q ∧ v = .int .i64 (q : Int) ∧ Below B w wr ∧ ∃ a c, ov = .slice a (L + 4 + q) c ∧ Own wr 5 1 B a (L + 4 + q) c (B8 (o ++ List.replicate 4 x ++ List.replicate q x)))
                  case atStart => exact ⟨0, Nat.zero_le _, by simp, rfl, hb6, a6, c6, rfl, by simpa using o6⟩
                  case round =>
                    clear o6 hb6 hp6
                    obtain ⟨q, hq, rfl, rfl, hb6, a6, c6, rfl, o6⟩ := hrel
                    rename World => wr
                    have hB6 : B ≤ wr.heap.size := by have := hb6.size; omega
                    have hp6 := hb.below (show Below w.heap.size w wr by rw [hB]; exact hb6)
                    obtain ⟨nz, cz⟩ := hp6.get8 hj4
                    rw [HZ.out, HZN.out] at cz
                    obtain ⟨_, cq⟩ := hp6.get8 hlt
                    rw [HX.out] at cq
                    clear hp6
                    by_cases hkz : q < zn
                    · have hkz2 : (q : Int) < (zn : Int) := Int.ofNat_lt.2 hkz
                      have H1 : Hid (L + 4 + q + 1 ≤ maxLen) := Lib.hid (by unfold maxLen; omega)
                      have H2 : Hid ((L + 4 + q + 1) * 1 ≤ 140737488355328) := Lib.hid (by omega)
                      go_wp2_with (refine wpList_push rfl _ _ _ rfl elB rfl rfl o6 (ys := [.int .u8 (x.toNat : Int)]) rfl (by simp [Value.oneCell']) H1.out H2.out hB6 ?_; intro a' c' w1 o1 r1 _)
                      go_roundg (zn - (q + 1))
                      case measure => omega
                      case rel => exact ⟨q + 1, by omega, rfl, by simp, Own.grown hb6 o6 r1 hB6 (Nat.le_refl _), a', c', rfl, by rw [List.replicate_succ' (n := q), ← List.append_assoc, ← B8_app]; exact o1⟩
                    · have hkz2 : ¬ (q : Int) < (zn : Int) := fun h => hkz (Int.ofNat_lt.1 h)
                      have hke : q = zn := Nat.le_antisymm hq (Nat.not_lt.1 hkz)
                      have hlen2 : (o ++ List.replicate 4 x ++ List.replicate q x).length = L + 4 + q := by rw [List.length_append, List.length_append, HLL.out, List.length_replicate, List.length_replicate]
                      have HT := Lib.hid hlen2; clear hlen2
                      go_wp2_with fail
                      go_roundg (n - j5)
                      case measure => have := HJ5.out; omega
                      case rel => exact ⟨j5, by have := HJ5.out; have := HJ4.out; omega, rfl, rfl, hb6, o ++ List.replicate 4 x ++ List.replicate q x, by rw [HT.out]; have := HJ5.out; omega, Lib.hid (by rw [← hsay.out, HS.out, hke]; simp), a6, c6, by rw [HT.out, hke], by rw [HT.out]; exact o6⟩
              · have hsc := say_short (p.drop j) (by rw [List.length_drop, HL.out]; omega) k (by rw [HX0.out]; exact HR.out) (by rw [List.length_drop, HL.out]; omega)
                rw [HX0.out, List.drop_drop] at hsc
                rw [hjy] at hsc
                have HS := Lib.hid hsc; clear hsc
                have hkp : 0 < k ∧ jy ≤ n := ⟨HRN.out.1, by rw [← hjy]; exact HRN.out.2⟩
                have HJK := Lib.hid hjy; clear hjy
                clear hp6
                by_cases hk4 : k = 4
                · have hkeq : ((k : Int) == 4) = true := by rw [hk4]; rfl
                  have hj4n2 : decide (((j : Int) + 4) < (n : Int)) = false := deF (by omega)
                  have HK4 := Lib.hid hk4; clear hk4 hcn
                  go_wp2_with fail
                  go_roundg (n - jy)
                  case measure => have := HJK.out; omega
                  case rel => exact ⟨jy, hkp.2, rfl, rfl, hb6, o ++ List.replicate k x, by simp; have := HJK.out; have := HLL.out; omega, Lib.hid (by rw [← hsay.out, HS.out]; simp), a6, c6, by simp [HLL.out], by simpa [HLL.out] using o6⟩
                · have hkeq : ((k : Int) == 4) = false := beq_eq_false_iff_ne.2 (by omega)
                  clear hcn
                  go_wp2_with fail
                  go_roundg (n - jy)
                  case measure => have := HJK.out; omega
                  case rel => exact ⟨jy, hkp.2, rfl, rfl, hb6, o ++ List.replicate k x, by simp; have := HJK.out; have := HLL.out; omega, Lib.hid (by rw [← hsay.out, HS.out]; simp), a6, c6, by simp [HLL.out], by simpa [HLL.out] using o6⟩
    · obtain rfl : j = n := by omega
      have he : p.drop j = [] := List.drop_eq_nil_of_le (by rw [HL.out]; omega)
      have hs := hsay.out
      rw [he, say_nil, List.append_nil] at hs
      subst hs
      go_wp2_with fail
      go_ret
      exact ⟨a, c, rfl, oo, hbw⟩
end Go.Proofs.Ytjlhhbbciaeggaa
