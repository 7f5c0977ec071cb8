/- The law LcpText, walked. -/
import Derived.Test.YtlokjgmfhbgmcaaLcpE
namespace Go.Proofs.Ytlokjgmfhbgmcaa
set_option linter.unusedSimpArgs false
set_option linter.unusedVariables false
open Go.RowKit

theorem cmm_com {b : List UInt8} {o : List Nat} (h : Ordered b false o) {i j : Nat} (hij : i < j) (hj : j < b.length) : cmmI ((hgtL b o).map fun c : Nat => (c : Int)) (i : Int) (j : Int) = (((com b (atN o i) (atN o j) : Nat) : Int), (0 : Int)) := by
  rw [cmmI, if_neg (by rw [List.length_map, hgtL_len]; omega), Int.toNat_natCast, Int.toNat_natCast, lst_com h i (j - i - 1) (by omega), show i + 1 + (j - i - 1) = j by omega]

set_option maxRecDepth 100000 in
set_option maxHeartbeats 8000000 in
theorem lcpText_law (w : World) (ad : Option Addr) (n cap : Nat) (b : List UInt8) (hb : Rd w 1 ad n cap (B8 b)) (x : Nat) (hx : x < 65536) (y : Nat) (hy : y < 65536) (z : Nat) (hz : z < 65536) :
    Calls Try.prog 5 #[.slice ad n cap, .int .u16 (x : Int), .int .u16 (y : Int), .int .u16 (z : Int)] w fun e w' => e = .returned (.bool true) ∧ Below w.heap.size w w' := by
  have hl := hb.len8
  have HL := Lib.hid hl; clear hl
  by_cases hn : 600 < n
  · go_enter Try.func5, Try.ntmps5
    go_wp2_with fail
    refine (known_any _).mono ?_
    rintro e w10 ⟨rfl, b10⟩
    go_wp2_with fail
    go_ret
    exact ⟨rfl, b10⟩
  by_cases hn2 : n < 2
  · go_enter Try.func5, Try.ntmps5
    go_wp2_with fail
    refine (known_any _).mono ?_
    rintro e w10 ⟨rfl, b10⟩
    go_wp2_with fail
    go_ret
    exact ⟨rfl, b10⟩
  obtain ⟨i, hi⟩ : ∃ i, x % (n - 1) = i := ⟨_, rfl⟩
  obtain ⟨d, hd⟩ : ∃ d, y % (n - 1 - i) = d := ⟨_, rfl⟩
  have hin : i < n - 1 := by rw [← hi]; exact Nat.mod_lt _ (by omega)
  have hdn : d < n - 1 - i := by rw [← hd]; exact Nat.mod_lt _ (by omega)
  obtain ⟨j, hj⟩ : ∃ j, i + 1 + d = j := ⟨_, rfl⟩
  have hjn : j < n := by omega
  obtain ⟨f, hf⟩ : ∃ f, z % (n - j) = f := ⟨_, rfl⟩
  have hfn : f < n - j := by rw [← hf]; exact Nat.mod_lt _ (by omega)
  obtain ⟨k, hk⟩ : ∃ k, j + f = k := ⟨_, rfl⟩
  have hkn : k < n := by omega
  have hij : i < j := by omega
  have hjk : j ≤ k := by omega
  have f1 : (x : Int).tmod ((n : Int) - 1) = (i : Int) := by rw [show (n : Int) - 1 = ((n - 1 : Nat) : Int) by omega, ← hi]; rfl
  have f2 : (y : Int).tmod ((n : Int) - 1 - (i : Int)) = (d : Int) := by rw [show (n : Int) - 1 - (i : Int) = ((n - 1 - i : Nat) : Int) by omega, ← hd]; rfl
  have f3 : (z : Int).tmod ((n : Int) - (j : Int)) = (f : Int) := by rw [show (n : Int) - (j : Int) = ((n - j : Nat) : Int) by omega, ← hf]; rfl
  have g1 : (i : Int) + 1 + (d : Int) = (j : Int) := by omega
  have g2 : (j : Int) + (f : Int) = (k : Int) := by omega
  have n1 : ¬ (n : Int) - 1 = 0 := by omega
  have n2 : ¬ (n : Int) - 1 - (i : Int) = 0 := by omega
  have n3 : ¬ (n : Int) - (j : Int) = 0 := by omega
  have w1 : IntKind.i64.wrap ((n : Int) - 1) = (n : Int) - 1 := IntWalk.i64_in _ (by omega)
  have w2 : IntKind.i64.wrap ((n : Int) - 1 - (i : Int)) = (n : Int) - 1 - (i : Int) := IntWalk.i64_in _ (by omega)
  have w3 : IntKind.i64.wrap ((n : Int) - (j : Int)) = (n : Int) - (j : Int) := IntWalk.i64_in _ (by omega)
  have w4 : IntKind.i64.wrap (i : Int) = (i : Int) := IntWalk.i64_in _ (by omega)
  have w5 : IntKind.i64.wrap (d : Int) = (d : Int) := IntWalk.i64_in _ (by omega)
  have w6 : IntKind.i64.wrap (f : Int) = (f : Int) := IntWalk.i64_in _ (by omega)
  have w7 : IntKind.i64.wrap ((i : Int) + 1) = (i : Int) + 1 := IntWalk.i64_in _ (by omega)
  have w8 : IntKind.i64.wrap (j : Int) = (j : Int) := IntWalk.i64_in _ (by omega)
  have w9 : IntKind.i64.wrap (k : Int) = (k : Int) := IntWalk.i64_in _ (by omega)
  have wx : IntKind.i64.wrap (x : Int) = (x : Int) := IntWalk.i64_in _ (by omega)
  have wy : IntKind.i64.wrap (y : Int) = (y : Int) := IntWalk.i64_in _ (by omega)
  have wz : IntKind.i64.wrap (z : Int) = (z : Int) := IntWalk.i64_in _ (by omega)
  have FS := Lib.hid (And.intro f1 (And.intro f2 (And.intro f3 (And.intro g1 (And.intro g2 (And.intro n1 (And.intro n2 n3)))))))
  have WS := Lib.hid (And.intro w1 (And.intro w2 (And.intro w3 (And.intro w4 (And.intro w5 (And.intro w6 (And.intro w7 (And.intro w8 (And.intro w9 (And.intro wx (And.intro wy wz)))))))))))
  clear f1 f2 f3 g1 g2 n1 n2 n3 w1 w2 w3 w4 w5 w6 w7 w8 w9 wx wy wz hi hd hj hf hk
  go_enter Try.func5, Try.ntmps5
  go_wp2_with fail
  refine (ends_law _ _ _ _ b hb (by omega)).mono ?_
  rintro e wa ⟨ga, o, rfl, owna, ord, ba⟩
  have hba := hb.below ba
  have ra := owna.rd
  rw [N64_I64] at ra
  go_wp2_with fail
  refine (heights_hs _ _ _ _ b hba (by omega) _ _ _ _ ra o ord).mono ?_
  rintro e wb ⟨a2, m2, k2, e2, h2, rfl, own2, s2, bb⟩
  obtain ⟨rfl, rfl⟩ := Hs.unique (.inr ⟨rfl, rfl, rfl⟩) s2
  have hm2 := own2.rd.lenN
  rw [hgtL_len, HL.out] at hm2
  subst hm2
  have cb := ba.trans (bb.mono ba.size)
  have ownb := owna.below bb
  obtain ⟨nz, cz⟩ := own2.rd.getN (k := 0) (by omega)
  rw [hgtL, atN_row _ _ _ (by rw [HL.out]; omega), show hgt b o 0 = 0 by simp [hgt]] at cz
  have r2 := own2.rd
  rw [N64_I64] at r2
  have q1 := cmm_com ord hij (by rw [HL.out]; exact hjn)
  have q2 := cmm_com ord (show i < k by omega) (by rw [HL.out]; exact hkn)
  have hle : com b (atN o i) (atN o k) ≤ com b (atN o i) (atN o j) := by
    rcases Nat.eq_or_lt_of_le hjk with e | e
    · rw [e]; exact Nat.le_refl _
    · rw [com_min ord hij e (by rw [HL.out]; exact hkn)]; exact Nat.min_le_left _ _
  have li := ord.ord.lt (p := i) (by rw [HL.out]; omega)
  have lj := ord.ord.lt (p := j) (by rw [HL.out]; omega)
  have lk := ord.ord.lt (p := k) (by rw [HL.out]; omega)
  rw [HL.out] at li lj lk
  obtain ⟨ci, _⟩ := ownb.getN (k := i) (by omega)
  obtain ⟨cj, _⟩ := ownb.getN (k := j) (by omega)
  obtain ⟨ck, _⟩ := ownb.getN (k := k) (by omega)
  generalize atN o i = u at *
  generalize atN o j = v at *
  generalize atN o k = t at *
  have hcz : ((0 : Nat) : Int) = 0 := rfl
  rw [hcz] at cz
  have Q1 := Lib.hid q1; clear q1
  have Q2 := Lib.hid q2; clear q2
  obtain ⟨f1, f2, f3, g1, g2, n1, n2, n3⟩ := FS.out
  obtain ⟨w1, w2, w3, w4, w5, w6, w7, w8, w9, wx, wy, wz⟩ := WS.out
  have hn0 : (0 : Int) < (n : Int) := by omega
  clear ba bb hba ra owna s2 hcz ord
  go_wp2_with fail
  clear f1 f2 f3 g1 g2 n1 n2 n3 w1 w2 w3 w4 w5 w6 w7 w8 w9 wx wy wz cz nz
  refine (common_law _ _ _ _ _ r2 (by omega) (i : Int) (j : Int)).mono ?_
  rintro e wc ⟨rfl, bc⟩
  rw [Q1.out]
  have r3 := r2.below bc
  have cc := cb.trans (bc.mono cb.size)
  have ci3 := cell_below ci bc
  have cj3 := cell_below cj bc
  have ck3 := cell_below ck bc
  clear r2 bc cb ci cj ck
  dsimp only
  go_wp2_with fail
  refine (common_law _ _ _ _ _ r3 (by omega) (i : Int) (k : Int)).mono ?_
  rintro e wd ⟨rfl, bd⟩
  rw [Q2.out]
  have cd := cc.trans (bd.mono cc.size)
  have ci4 := cell_below ci3 bd
  have cj4 := cell_below cj3 bd
  have ck4 := cell_below ck3 bd
  have hrb := hb.below (cd.drew)
  have H1 := Lib.hid (fun (W : World) (hW : Below wd.drew.heap.size wd.drew W) => refCommon_law W ad n cap b (hrb.below hW) (by omega) u v (by omega) (by omega))
  have H2 := Lib.hid (fun (W : World) (hW : Below wd.drew.heap.size wd.drew W) => refCommon_law W ad n cap b (hrb.below hW) (by omega) u t (by omega) (by omega))
  have bd0 : Below wd.drew.heap.size wd.drew wd.drew := Below.refl _ _
  have hle2 : ((com b u t : Nat) : Int) ≤ ((com b u v : Nat) : Int) := by omega
  generalize com b u v = n1 at *
  generalize com b u t = m1 at *
  clear r3 bd cc ci3 cj3 ck3 own2 ownb hrb hle
  dsimp only
  go_upto_region 12 with fail
  have hin2 : (i : Int) < (n : Int) := by omega
  have hjn2 : (j : Int) < (n : Int) := by omega
  have hkn2 : (k : Int) < (n : Int) := by omega
  go_region_held3 (fun w' => w'.cell? ⟨ga, i, none⟩ = some (.int .i64 (u : Int)) ∧ w'.cell? ⟨ga, j, none⟩ = some (.int .i64 (v : Int)) ∧ w'.cell? ⟨ga, k, none⟩ = some (.int .i64 (t : Int)))
    (first | (exact ⟨cell_below (W := wd.drew) ci4 b12, cell_below (W := wd.drew) cj4 b12, cell_below (W := wd.drew) ck4 b12⟩) | (exact ⟨cell_below (W := wd.drew) ci4 b11, cell_below (W := wd.drew) cj4 b11, cell_below (W := wd.drew) ck4 b11⟩) | (exact ⟨cell_below (W := wd.drew) ci4 b10, cell_below (W := wd.drew) cj4 b10, cell_below (W := wd.drew) ck4 b10⟩) | (exact ⟨ci4, cj4, ck4⟩) | go_keep)
    (first
      | (go_at_call 16; refine (H2.out _ b10).mono ?_; rintro e w11 ⟨rfl, b11'⟩; have b11 := b10.trans (b11'.mono b10.size))
      | (go_at_call 16; refine (H1.out _ bd0).mono ?_; rintro e w10 ⟨rfl, b10⟩)
      | (go_at_call 12; refine (known_any _).mono ?_; rintro e w12 ⟨rfl, b12'⟩; have b12 := b11.trans (b12'.mono b11.size)))
  all_goals
    have c12 := cd.drew.trans (b12.mono cd.drew.size)
    go_wp2_with fail
    go_ret
    exact ⟨rfl, c12⟩
end Go.Proofs.Ytlokjgmfhbgmcaa
