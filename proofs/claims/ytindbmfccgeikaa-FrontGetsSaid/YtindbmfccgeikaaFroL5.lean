/- FrontGets. -/
import Derived.Test.YtindbmfccgeikaaFroQ
import Derived.Test.YtindbmfccgeikaaFroN
namespace Go.Proofs.Ytindbmfccgeikaa
set_option linter.unusedSimpArgs false
set_option linter.unusedVariables false
open Go.RowKit

set_option maxRecDepth 100000 in
set_option maxHeartbeats 8000000 in
theorem frontGets_law (w : World) (ad : Option Addr) (n cap : Nat) (us : List UInt8) (hu : Rd w 1 ad n cap (B8 us)) (bd : Option Addr) (M cap2 : Nat) (ss : List Int) (hs : Rd w 1 bd M cap2 (I64 ss)) (most : Int) (hmo : -9223372036854775808 ≤ most ∧ most ≤ 9223372036854775807) :
    Calls Try.prog 4 #[.slice ad n cap, .slice bd M cap2, .int .i64 most] w fun e w' => e = .returned (.bool true) ∧ Below w.heap.size w w' := by
  by_cases hn : 300 < n
  · go_enter Try.func4, Try.ntmps4
    go_wp2_with fail
    go_ret
    exact ⟨rfl, Below.refl _ _⟩
  by_cases hM : 600 < M
  · go_enter Try.func4, Try.ntmps4
    go_wp2_with fail
    go_ret
    exact ⟨rfl, Below.refl _ _⟩
  by_cases h1 : 100000 < most
  · by_cases h2 : most ≤ 900000
    · go_enter Try.func4, Try.ntmps4
      go_wp2_with fail
      go_ret
      exact ⟨rfl, Below.refl _ _⟩
    · have HG1 := Lib.hid (fun W a c b d (h1 : Rd W 1 a n c (B8 us)) (h2 : Rd W 1 b M d (I64 ss)) => get_law W a n c us h1 b M d ss h2 most (by omega) (by omega) hmo)
      have HG2 := Lib.hid (fun W (h1 : Rd W 1 ad n cap (B8 us)) (h2 : Rd W 1 bd M cap2 (I64 ss)) => rget_law W ad n cap us h1 bd M cap2 ss h2 most (by omega) (by omega) hmo (by omega))
      go_enter Try.func4, Try.ntmps4
      go_wp2_with (first | (refine wpList_clone rfl _ _ _ rfl elB rfl rfl hu (by unfold maxLen; omega) (by omega) ?_; intro iA iC wi oI bI sI; clear sI) | (refine wpList_clone rfl _ _ _ rfl tI rfl rfl (hs.below bI) (by unfold maxLen; omega) (by omega) ?_; intro lA lC wl oL bL sL; clear sL))
      have b0l := bI.trans (bL.mono bI.size)
      have ri := oI.rd.below bL
      have rl := oL.rd
      refine (HG1.out wl iA iC lA lC ri rl).mono ?_
      rintro e w2 hg
      rcases hg with ⟨⟨k, hR, rfl⟩ | ⟨out, xA, xC, hR, rfl, oX, ho5⟩, b2⟩
      · have b02 := b0l.trans (b2.mono b0l.size)
        have ri2 := ri.below b2
        have rl2 := rl.below b2
        have h2 := HG2.out w2 (hu.below b02) (hs.below b02)
        clear ri rl b0l bI bL b2
        go_wp2_with fail
        refine h2.mono ?_
        rintro e w3 hg
        obtain ⟨rfl, b3⟩ := hg.err hR
        have b03 := b02.trans (b3.mono b02.size)
        have s1 := rstr (xs := []) (Own.nil w3 5 1 0).rd
        have s3 := rstr (ri2.below b3)
        have s4 := rstr (hu.below b03)
        have rl3 := rl2.below b3
        have rs3 := hs.below b03
        have rd3 := hu.below b03
        clear hg h2 hR ri2 rl2 b02 b3 hu hs
        have hsame := same_law w3 lA bd M lC M cap2 ss ss rl3 rs3
        rw [show decide (ss = ss) = true by simp] at hsame
        clear oI oL rl3 rs3 rd3
        go_wp2_with fail
        refine hsame.mono ?_
        rintro e w4 ⟨rfl, b4⟩
        have b04 := b03.trans (b4.mono b03.size)
        clear b4 hsame
        go_wp2_with fail
        refine (says_any _).mono ?_
        rintro e w9 ⟨rfl, b9⟩
        go_wp2_with fail
        go_ret
        exact ⟨rfl, b04.trans (b9.mono b04.size)⟩
      · have b02 := b0l.trans (b2.mono b0l.size)
        have ri2 := ri.below b2
        have rl2 := rl.below b2
        have rx2 := oX.rd
        have h2 := HG2.out w2 (hu.below b02) (hs.below b02)
        clear ri rl b0l bI bL b2 oX
        go_wp2_with fail
        refine h2.mono ?_
        rintro e w3 hg
        obtain ⟨yA, yC, rfl, oY, b3⟩ := hg.ok hR
        have b03 := b02.trans (b3.mono b02.size)
        have s1 := rstr (rx2.below b3)
        have s2 := rstr oY.rd
        have s3 := rstr (ri2.below b3)
        have s4 := rstr (hu.below b03)
        have rl3 := rl2.below b3
        have rs3 := hs.below b03
        have rd3 := hu.below b03
        clear hg h2 hR ri2 rl2 rx2 oY b02 b3 hu hs ho5
        have hsame := same_law w3 lA bd M lC M cap2 ss ss rl3 rs3
        rw [show decide (ss = ss) = true by simp] at hsame
        clear oI oL rl3 rs3 rd3
        go_wp2_with fail
        refine hsame.mono ?_
        rintro e w4 ⟨rfl, b4⟩
        have b04 := b03.trans (b4.mono b03.size)
        clear b4 hsame
        go_wp2_with fail
        refine (says_any _).mono ?_
        rintro e w9 ⟨rfl, b9⟩
        go_wp2_with fail
        go_ret
        exact ⟨rfl, b04.trans (b9.mono b04.size)⟩
  · have HG1 := Lib.hid (fun W a c b d (h1 : Rd W 1 a n c (B8 us)) (h2 : Rd W 1 b M d (I64 ss)) => get_law W a n c us h1 b M d ss h2 most (by omega) (by omega) hmo)
    have HG2 := Lib.hid (fun W (h1 : Rd W 1 ad n cap (B8 us)) (h2 : Rd W 1 bd M cap2 (I64 ss)) => rget_law W ad n cap us h1 bd M cap2 ss h2 most (by omega) (by omega) hmo (by omega))
    go_enter Try.func4, Try.ntmps4
    go_wp2_with (first | (refine wpList_clone rfl _ _ _ rfl elB rfl rfl hu (by unfold maxLen; omega) (by omega) ?_; intro iA iC wi oI bI sI; clear sI) | (refine wpList_clone rfl _ _ _ rfl tI rfl rfl (hs.below bI) (by unfold maxLen; omega) (by omega) ?_; intro lA lC wl oL bL sL; clear sL))
    have b0l := bI.trans (bL.mono bI.size)
    have ri := oI.rd.below bL
    have rl := oL.rd
    refine (HG1.out wl iA iC lA lC ri rl).mono ?_
    rintro e w2 hg
    rcases hg with ⟨⟨k, hR, rfl⟩ | ⟨out, xA, xC, hR, rfl, oX, ho5⟩, b2⟩
    · have b02 := b0l.trans (b2.mono b0l.size)
      have ri2 := ri.below b2
      have rl2 := rl.below b2
      have h2 := HG2.out w2 (hu.below b02) (hs.below b02)
      clear ri rl b0l bI bL b2
      go_wp2_with fail
      refine h2.mono ?_
      rintro e w3 hg
      obtain ⟨rfl, b3⟩ := hg.err hR
      have b03 := b02.trans (b3.mono b02.size)
      have s1 := rstr (xs := []) (Own.nil w3 5 1 0).rd
      have s3 := rstr (ri2.below b3)
      have s4 := rstr (hu.below b03)
      have rl3 := rl2.below b3
      have rs3 := hs.below b03
      have rd3 := hu.below b03
      clear hg h2 hR ri2 rl2 b02 b3 hu hs
      have hsame := same_law w3 lA bd M lC M cap2 ss ss rl3 rs3
      rw [show decide (ss = ss) = true by simp] at hsame
      clear oI oL rl3 rs3 rd3
      go_wp2_with fail
      refine hsame.mono ?_
      rintro e w4 ⟨rfl, b4⟩
      have b04 := b03.trans (b4.mono b03.size)
      clear b4 hsame
      go_wp2_with fail
      refine (says_any _).mono ?_
      rintro e w9 ⟨rfl, b9⟩
      go_wp2_with fail
      go_ret
      exact ⟨rfl, b04.trans (b9.mono b04.size)⟩
    · have b02 := b0l.trans (b2.mono b0l.size)
      have ri2 := ri.below b2
      have rl2 := rl.below b2
      have rx2 := oX.rd
      have h2 := HG2.out w2 (hu.below b02) (hs.below b02)
      clear ri rl b0l bI bL b2 oX
      go_wp2_with fail
      refine h2.mono ?_
      rintro e w3 hg
      obtain ⟨yA, yC, rfl, oY, b3⟩ := hg.ok hR
      have b03 := b02.trans (b3.mono b02.size)
      have s1 := rstr (rx2.below b3)
      have s2 := rstr oY.rd
      have s3 := rstr (ri2.below b3)
      have s4 := rstr (hu.below b03)
      have rl3 := rl2.below b3
      have rs3 := hs.below b03
      have rd3 := hu.below b03
      clear hg h2 hR ri2 rl2 rx2 oY b02 b3 hu hs ho5
      have hsame := same_law w3 lA bd M lC M cap2 ss ss rl3 rs3
      rw [show decide (ss = ss) = true by simp] at hsame
      clear oI oL rl3 rs3 rd3
      go_wp2_with fail
      refine hsame.mono ?_
      rintro e w4 ⟨rfl, b4⟩
      have b04 := b03.trans (b4.mono b03.size)
      clear b4 hsame
      go_wp2_with fail
      refine (says_any _).mono ?_
      rintro e w9 ⟨rfl, b9⟩
      go_wp2_with fail
      go_ret
      exact ⟨rfl, b04.trans (b9.mono b04.size)⟩
end Go.Proofs.Ytindbmfccgeikaa
