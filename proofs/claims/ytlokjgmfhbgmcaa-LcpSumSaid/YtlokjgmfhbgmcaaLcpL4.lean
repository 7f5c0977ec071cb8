/- The law LcpSum, walked. -/
import Derived.Test.YtlokjgmfhbgmcaaLcpE
namespace Go.Proofs.Ytlokjgmfhbgmcaa
set_option linter.unusedSimpArgs false
set_option linter.unusedVariables false
open Go.RowKit

/-- what a height, and the signs behind it, say -/
theorem dif_says {b : List UInt8} {x y t : Nat} (h : Dif b x y t) (hx : x < b.length) : y + t < b.length ∧ x + t ≤ b.length ∧ (x + t < b.length → (at8 b (x + t)).toNat < (at8 b (y + t)).toNat) := by
  have hy : y + t < b.length := Nat.lt_of_not_le fun e => by have := h.2; rw [sgn_out b (y + t) e] at this; omega
  refine ⟨hy, ?_, fun hxt => ?_⟩
  · rcases Nat.eq_zero_or_pos t with e | e
    · omega
    · have := ((onB_iff _ _ _).1 (h.com.1 (t - 1) (by omega))).1; omega
  · have := h.2
    rw [sgn_in _ _ hxt, sgn_in _ _ hy] at this; omega

set_option maxRecDepth 100000 in
set_option maxHeartbeats 4000000 in
theorem lcpSum_law (w : World) (ad : Option Addr) (n cap : Nat) (b : List UInt8) (hb : Rd w 1 ad n cap (B8 b)) :
    Calls Try.prog 6 #[.slice ad n cap] w fun e w' => e = .returned (.bool true) ∧ Below w.heap.size w w' := by
  have hl := hb.len8
  have HL := Lib.hid hl; clear hl
  by_cases hn : 600 < n
  · go_enter Try.func6, Try.ntmps6
    go_wp2
    go_ret
    exact ⟨rfl, Below.refl _ _⟩
  go_enter Try.func6, Try.ntmps6
  go_wp2_with fail
  refine (ends_law _ _ _ _ b hb (by omega)).mono ?_
  rintro e w1 ⟨g1, o, rfl, own1, ord, b1⟩
  have hb1 := hb.below b1
  have r1 := own1.rd
  rw [N64_I64] at r1
  go_wp2_with fail
  refine (heights_hs _ _ _ _ b hb1 (by omega) _ _ _ _ r1 o ord).mono ?_
  rintro e w2 ⟨a2, m2, k2, e2, h2, rfl, own2, s2, b2⟩
  obtain ⟨rfl, rfl⟩ := Hs.unique (.inr ⟨rfl, rfl, rfl⟩) s2
  have hm2 := own2.rd.lenN
  rw [hgtL_len, HL.out] at hm2
  subst hm2
  have c2 := b1.trans (b2.mono b1.size)
  have own12 := own1.below b2
  have O := Lib.hid ord; clear ord
  clear own1 b1 b2 hb1 r1 s2
  go_wp2_with fail
  go_loopg [6] n (fun k i wr => ∃ p : Nat, 1 ≤ p ∧ p ≤ n + 1 ∧ k = n + 1 - p ∧ i = .int .i64 (p : Int) ∧ Below w2.heap.size w2 wr)
  case atStart => exact ⟨1, Nat.le_refl _, by omega, by omega, rfl, Below.refl _ _⟩
  case round =>
    obtain ⟨p, hp1, hp2, rfl, rfl, hbi⟩ := hrel
    rename World => wi
    have oo := own12.below hbi
    have oh := own2.below hbi
    have c3 := c2.trans (hbi.mono c2.size)
    by_cases hlt : p < n
    · have rb := hb.below c3
      obtain ⟨q, hq⟩ : ∃ q, p = q + 1 := ⟨p - 1, by omega⟩
      have hqn : q < n := by omega
      have hsub : (p : Int) - 1 = (q : Int) := by omega
      have hw1 : IntKind.i64.wrap (q : Int) = (q : Int) := IntWalk.i64_in _ (by omega)
      have hpn2 : (p : Int) < (n : Int) := by omega
      have hqn2 : (q : Int) < (n : Int) := by omega
      obtain ⟨cq, _⟩ := oo.getN hqn
      obtain ⟨cp, _⟩ := oo.getN hlt
      obtain ⟨nh, ch⟩ := oh.rd.getN hlt
      rw [hgtL, atN_row _ _ _ (by rw [HL.out]; exact hlt), hgt, if_neg (by omega), show p - 1 = q by omega] at ch
      have hd := O.out.dif (p := q) (q := p) (by omega) (by rw [HL.out]; exact hlt)
      have li := O.out.ord.lt (p := q) (by rw [HL.out]; exact hqn)
      have hsay := dif_says hd li
      have hcl := com_le b (atN o q) (atN o p)
      have lj := O.out.ord.lt (p := p) (by rw [HL.out]; exact hlt)
      rw [HL.out] at hsay li lj hcl
      clear hd
      generalize com b (atN o q) (atN o p) = t at *
      generalize atN o q = i at *
      generalize atN o p = j at *
      obtain ⟨h1, h2, h3⟩ := hsay
      obtain ⟨x, hx⟩ : ∃ x, i + t = x := ⟨_, rfl⟩
      obtain ⟨y, hy⟩ : ∃ y, j + t = y := ⟨_, rfl⟩
      rw [hx] at h2 h3
      rw [hy] at h1 h3
      have e1 : (i : Int) + (t : Int) = (x : Int) := by omega
      have e2 : (j : Int) + (t : Int) = (y : Int) := by omega
      have w1 : IntKind.i64.wrap (x : Int) = (x : Int) := IntWalk.i64_in _ (by omega)
      have w2' : IntKind.i64.wrap (y : Int) = (y : Int) := IntWalk.i64_in _ (by omega)
      have z1 : ¬ (n : Int) ≤ (y : Int) := by omega
      have z2 : ¬ (n : Int) < (x : Int) := by omega
      have z3 : ¬ (t : Int) < 0 := by omega
      have HQ := Lib.hid hq; clear hq
      clear hx hy
      have C3 := Lib.hid hbi
      clear hbi oo
      go_upto_region 10 with fail
      (try simp only [List.append])
      refine wp_region_quiet_lit (by kernel_rfl) (by kernel_rfl) ?_
      repeat (go_big_quiet_step (fail))
      refine wpQuiet_nil ?_
      intro _ hw'
      obtain ⟨nq, hw''⟩ := hw'
      subst hw''
      have cqd : (wi.drewN nq).cell? (sAt a2 p) = some (.int .i64 (t : Int)) := ch
      have rbd := rdDraws rb nq
      have bdr := bDraws C3.out nq
      clear rb ch cq cp C3
      generalize wi.drewN nq = wj at *
      by_cases hxn : x < n
      · have t1 : decide ((x : Int) < (n : Int)) = true := deT (by omega)
        have h4 := h3 hxn
        obtain ⟨nb1, cb1⟩ := rbd.get8 hxn
        obtain ⟨nb2, cb2⟩ := rbd.get8 h1
        generalize (at8 b x).toNat = u at *
        generalize (at8 b y).toNat = v at *
        have t2 : decide ((v : Int) ≤ (u : Int)) = false := deF (by omega)
        have hxn2 : (x : Int) < (n : Int) := by omega
        have hyn2 : (y : Int) < (n : Int) := by omega
        go_upto_region 13 with fail
        (try simp only [List.append])
        refine wp_region_quiet_lit (by kernel_rfl) (by kernel_rfl) ?_
        repeat (go_big_quiet_step (fail))
        refine wpQuiet_nil ?_
        intro _ hw'
        obtain ⟨nq, hw''⟩ := hw'
        subst hw''
        go_wp2_with fail
        go_roundg (n + 1 - (p + 1))
        case measure => omega
        case rel => exact ⟨p + 1, by omega, by omega, rfl, by simp, bDraws bdr _⟩
      · have t1 : decide ((x : Int) < (n : Int)) = false := deF (by omega)
        go_upto_region 13 with fail
        (try simp only [List.append])
        refine wp_region_quiet_lit (by kernel_rfl) (by kernel_rfl) ?_
        repeat (go_big_quiet_step (fail))
        refine wpQuiet_nil ?_
        intro _ hw'
        obtain ⟨nq, hw''⟩ := hw'
        subst hw''
        go_wp2_with fail
        go_roundg (n + 1 - (p + 1))
        case measure => omega
        case rel => exact ⟨p + 1, by omega, by omega, rfl, by simp, bDraws bdr _⟩
    · have hnp : ¬ (p : Int) < (n : Int) := by omega
      clear oo oh hbi
      go_wp2_with fail
      refine (known_any _).mono ?_
      rintro e w10 ⟨rfl, b10⟩
      have c10 := c3.trans (b10.mono c3.size)
      clear c3 b10
      go_wp2_with fail
      go_ret
      exact ⟨rfl, c10⟩
end Go.Proofs.Ytlokjgmfhbgmcaa
