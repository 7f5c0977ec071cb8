/- The law SufsortRises, walked. -/
import Derived.Test.YtfgcjkknacpphaaSufL5
namespace Go.Proofs.Ytfgcjkknacpphaa
set_option linter.unusedSimpArgs false
set_option linter.unusedVariables false
open Go.RowKit

theorem ends_up {b : List UInt8} {o : List Nat} (h : Ordered b false o) {p q : Nat} (hpq : p < q) (hq : q < b.length) : Op.bytesLess (txt b false (atN o p)) (txt b false (atN o q)) = true := by
  rcases h.at hpq hq with h1 | ⟨h1, h2⟩
  · exact h1
  · have := congrArg List.length h1
    simp only [txt, Bool.false_eq_true, if_false, List.length_drop] at this
    have := h.ord.lt hq
    have := h.ord.lt (p := p) (by omega)
    omega
theorem less_ne {x y : List UInt8} (h : Op.bytesLess x y = true) : (x == y) = false := by
  rw [beq_eq_false_iff_ne]
  rintro rfl
  obtain ⟨t, _, h2⟩ := (less_iff _ _).1 h
  omega
theorem less_irr (x : List UInt8) : Op.bytesLess x x = false := by
  cases h : Op.bytesLess x x with
  | false => rfl
  | true => obtain ⟨t, _, h2⟩ := (less_iff _ _).1 h; omega
theorem ends_any (w0 : World) (ad : Option Addr) (n cap : Nat) (b : List UInt8) (hb : Rd w0 1 ad n cap (B8 b)) :
    ∀ W, Below w0.heap.size w0 W → ∀ i, i ≤ n → Calls Try.prog 16 #[.slice ad n cap, .int .i64 (i : Int)] W fun e W' => e = .returned (.string (bstr (txt b false i))) ∧ Below W.heap.size W W' :=
  fun W hW i hi => end_b W ad n cap b i (hb.below hW) hi
theorem rots_any (w0 : World) (ad : Option Addr) (n cap : Nat) (b : List UInt8) (hb : Rd w0 1 ad n cap (B8 b)) :
    ∀ W, Below w0.heap.size w0 W → ∀ i, i ≤ n → Calls Try.prog 17 #[.slice ad n cap, .int .i64 (i : Int)] W fun e W' => e = .returned (.string (bstr (txt b true i))) ∧ Below W.heap.size W W' :=
  fun W hW i hi => rotation_law W ad n cap b i (hb.below hW) hi

set_option maxRecDepth 100000 in
set_option maxHeartbeats 4000000 in
theorem sufsortRises_law (w : World) (ad : Option Addr) (n cap : Nat) (b : List UInt8) (hb : Rd w 1 ad n cap (B8 b)) :
    Calls Try.prog 5 #[.slice ad n cap] w fun e w' => e = .returned (.bool true) ∧ Below w.heap.size w w' := by
  by_cases hn : 1000 < n
  · go_enter Try.func5, Try.ntmps5
    go_wp2
    go_ret
    exact ⟨rfl, Below.refl _ _⟩
  · have hl := hb.len8
    have HL := Lib.hid hl; clear hl
    go_enter Try.func5, Try.ntmps5
    go_wp2_with fail
    refine (ends_law _ _ _ _ b hb (by omega)).mono ?_
    rintro e w2 ⟨g2, o2, rfl, own2, ord2, c2⟩
    have h2 := hb.below c2
    go_wp2_with fail
    refine (rotations_law _ _ _ _ b h2 (by omega)).mono ?_
    rintro e w3 ⟨g3, o3, rfl, own3, ord3, b3⟩
    have c3 := c2.trans (b3.mono c2.size)
    have own2' := own2.below b3
    have own3' := own3.lower c2.size
    have len2 : o2.length = n := by rw [ord2.len, HL.out]
    have len3 : o3.length = n := by rw [ord3.len, HL.out]
    clear h2 b3 c2 own2 own3
    have LEN2 := Lib.hid len2; clear len2
    have LEN3 := Lib.hid len3; clear len3
    have O2 := Lib.hid ord2; clear ord2
    have O3 := Lib.hid ord3; clear ord3
    have r2 := own2'.rd
    rw [N64_I64] at r2
    go_wp2_with fail
    refine (places_any _ _ _ _ _ r2 (by omega)).mono ?_
    rintro e w4 ⟨a4, m4, cp4, p4, rfl, own4, pl4, b4⟩
    have c4 := c3.trans (b4.mono c3.size)
    have hm4 := own4.rd.lenN
    rw [(inv_good LEN2.out O2.out.good (pl4.good O2.out.good)).2.2] at hm4
    subst hm4
    have e2 := own2'.below b4
    have e3 := own3'.below b4
    clear own2' own3' pl4 own4 b4 c3 r2
    have r3 := e3.rd
    rw [N64_I64] at r3
    go_wp2_with fail
    refine (places_any _ _ _ _ _ r3 (by omega)).mono ?_
    rintro e w5 ⟨a5, m5, cp5, p5, rfl, own5, pl5, b5⟩
    have c5 := c4.trans (b5.mono c4.size)
    have hm5 := own5.rd.lenN
    rw [(inv_good LEN3.out O3.out.good (pl5.good O3.out.good)).2.2] at hm5
    subst hm5
    have f2 := e2.below b5
    have f3 := e3.below b5
    clear e2 e3 pl5 own5 b5 c4 r3
    go_wp2_with fail
    go_loopg [5] (n - 1) (fun k i wr => ∃ j : Nat, 1 ≤ j ∧ k = n - j ∧ i = .int .i64 (j : Int) ∧ Below w5.heap.size w5 wr)
    case atStart => exact ⟨1, Nat.le_refl _, rfl, rfl, Below.refl _ _⟩
    case round =>
      obtain ⟨j, hj, rfl, rfl, hbi⟩ := hrel
      obtain ⟨p, hjp⟩ : ∃ p, j = p + 1 := ⟨j - 1, by omega⟩
      rename World => wi
      have oe := f2.below hbi
      have or := f3.below hbi
      have c6 := c5.trans (hbi.mono c5.size)
      have hsub : (j : Int) - 1 = (p : Int) := by omega
      by_cases hlt : j < n
      · have hrb := hb.below c6
        have HE := Lib.hid (ends_any _ ad n cap b hrb)
        have HR := Lib.hid (rots_any _ ad n cap b hrb)
        clear hrb
        have hpn : p < n := by omega
        have hw1 : IntKind.i64.wrap (p : Int) = (p : Int) := IntWalk.i64_in _ (by omega)
        have hpn2 : (p : Int) < (n : Int) := by omega
        have hpn3 : (j : Int) < (n : Int) := by omega
        have x1 := ends_up O2.out (p := p) (q := j) (by omega) (by rw [HL.out]; exact hlt)
        have x2 := O3.out.at (p := p) (q := j) (by omega) (by rw [HL.out]; exact hlt)
        have l1 := O2.out.ord.lt (p := p) (by rw [HL.out]; exact hpn)
        have l2 := O2.out.ord.lt (p := j) (by rw [HL.out]; exact hlt)
        have l3 := O3.out.ord.lt (p := p) (by rw [HL.out]; exact hpn)
        have l4 := O3.out.ord.lt (p := j) (by rw [HL.out]; exact hlt)
        rw [HL.out] at l1 l2 l3 l4
        obtain ⟨cu, _⟩ := oe.getN hpn
        obtain ⟨cv, _⟩ := oe.getN hlt
        have hpj : p < j := by omega
        have HJP := Lib.hid hjp; clear hjp
        generalize atN o2 p = u at *
        generalize atN o2 j = v at *
        have hdr : Below wi.heap.size wi wi.drew := (Below.refl _ _).drew
        have X2 := Lib.hid x2; clear x2
        have OR := Lib.hid or; clear or
        have HBI := Lib.hid hbi; clear hbi
        have C6 := Lib.hid c6; clear c6
        clear oe hb f2 f3 c5
        go_wp2_with fail
        go_region_held3 (fun w' => w'.cell? ⟨g2, p, none⟩ = some (.int .i64 (u : Int)) ∧ w'.cell? ⟨g2, j, none⟩ = some (.int .i64 (v : Int))) (first | (exact ⟨cell_below cu b10, cell_below cv b10⟩) | (exact ⟨cell_below cu b9, cell_below cv b9⟩) | (exact ⟨cell_below cu hdr, cell_below cv hdr⟩) | go_keep)
          (first
            | (go_at_call 16; refine (HE.out _ b9 _ (by omega)).mono ?_; rintro e w10 ⟨rfl, b10'⟩; have b10 := b9.trans (b10'.mono b9.size))
            | (go_at_call 16; refine (HE.out _ hdr _ (by omega)).mono ?_; rintro e w9 ⟨rfl, b9'⟩; have b9 := hdr.trans (b9'.mono hdr.size)))
        all_goals
          clear cu cv x1
          have hb7 := HBI.out.trans (b10.mono HBI.out.size)
          obtain ⟨cu, _⟩ := (OR.out.below b10).getN hpn
          obtain ⟨cv, _⟩ := (OR.out.below b10).getN hlt
          have HR2 := Lib.hid (fun W (hW : Below w10.heap.size w10 W) i hi => HR.out W (b10.trans (hW.mono b10.size)) i hi)
          have x2 := X2.out
          generalize atN o3 p = u at *
          generalize atN o3 j = v at *
          have BQ := Lib.hid b10; clear b10
          try clear b9
          have hdr : Below w10.heap.size w10 w10.drew := (Below.refl _ _).drew
          generalize w10 = wk at *
          go_wp2_with fail
          go_region_held3 (fun w' => w'.cell? ⟨g3, p, none⟩ = some (.int .i64 (u : Int)) ∧ w'.cell? ⟨g3, j, none⟩ = some (.int .i64 (v : Int))) (first | (exact ⟨cell_below cu b10, cell_below cv b10⟩) | (exact ⟨cell_below cu b9, cell_below cv b9⟩) | (exact ⟨cell_below cu hdr, cell_below cv hdr⟩) | go_keep)
            (first
              | (go_at_call 17; refine (HR2.out _ b9 _ (by omega)).mono ?_; rintro e w10 ⟨rfl, b10'⟩; have b10 := b9.trans (b10'.mono b9.size))
              | (go_at_call 17; refine (HR2.out _ hdr _ (by omega)).mono ?_; rintro e w9 ⟨rfl, b9'⟩; have b9 := hdr.trans (b9'.mono hdr.size)))
          all_goals
            obtain ⟨cu, _⟩ := ((OR.out.below BQ.out).below b10).getN hpn
            obtain ⟨cv, _⟩ := ((OR.out.below BQ.out).below b10).getN hlt
            have B10 := Lib.hid b10; clear b10
            try clear b9
            clear hdr
            go_upto_region 13 with fail
            rcases x2 with y1 | ⟨y1, y2⟩
            · have y2 := less_ne y1
              (try simp only [List.append])
              refine wp_region_quiet_lit (by kernel_rfl) (by kernel_rfl) ?_
              repeat (go_big_quiet_step (fail))
              refine wpQuiet_nil ?_
              intro _ hw'
              obtain ⟨nq, hw''⟩ := hw'
              subst hw''
              go_wp2_with fail
              go_roundg (n - (j + 1))
              case measure => omega
              case rel => exact ⟨j + 1, by omega, rfl, by simp, bDraws (hb7.trans (B10.out.mono hb7.size)) _⟩
            · have Y2 : ¬ ((v : Int) ≤ (u : Int)) := by omega
              have y3 := less_irr (txt b true v)
              rw [y1]
              (try simp only [List.append])
              refine wp_region_quiet_lit (by kernel_rfl) (by kernel_rfl) ?_
              repeat (go_big_quiet_step (fail))
              refine wpQuiet_nil ?_
              intro _ hw'
              obtain ⟨nq, hw''⟩ := hw'
              subst hw''
              go_wp2_with fail
              go_roundg (n - (j + 1))
              case measure => omega
              case rel => exact ⟨j + 1, by omega, rfl, by simp, bDraws (hb7.trans (B10.out.mono hb7.size)) _⟩
      · clear hjp hsub
        go_wp2_with fail
        refine (sorts_any _).mono ?_
        rintro e w8 ⟨rfl, b8⟩
        have c8 := c6.trans (b8.mono c6.size)
        clear c6 b8
        go_wp2_with fail
        go_ret
        exact ⟨rfl, c8⟩
end Go.Proofs.Ytfgcjkknacpphaa
