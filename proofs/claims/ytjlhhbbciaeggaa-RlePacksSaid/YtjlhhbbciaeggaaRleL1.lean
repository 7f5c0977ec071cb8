/- The law RlePacks, walked. -/
import Derived.Test.YtjlhhbbciaeggaaRleJ
namespace Go.Proofs.Ytjlhhbbciaeggaa
set_option linter.unusedSimpArgs false
set_option linter.unusedVariables false
open Go.RowKit

set_option maxRecDepth 100000 in
set_option maxHeartbeats 4000000 in
theorem rlePacks_law (w : World) (ad : Option Addr) (n cap : Nat) (b : List UInt8) (hb : Rd w 1 ad n cap (B8 b)) (room : Int) (hg : -9223372036854775808 ≤ room ∧ room ≤ 9223372036854775807) :
    Calls Try.prog 3 #[.slice ad n cap, .int .i64 room] w fun e w' => e = .returned (.bool true) ∧ Below w.heap.size w w' := by
  obtain ⟨hg0, hg1⟩ := hg
  by_cases hn : 5000 < n
  · go_enter Try.func3, Try.ntmps3
    go_wp2
    go_ret
    exact ⟨rfl, Below.refl _ _⟩
  go_enter Try.func3, Try.ntmps3
  go_wp2_with (refine wpList_clone rfl _ _ _ rfl elB rfl rfl hb (by unfold maxLen; omega) (by omega) ?_; intro a1 k1 w1 o1 b1 s1)
  clear s1
  refine (pack_law w1 a1 n k1 b o1.rd (by omega) room hg1).mono ?_
  intro e w2 h2
  unfold PackPost at h2
  obtain ⟨b2, h2⟩ := h2
  have c2 := b1.trans (b2.mono b1.size)
  by_cases hr : room < 5
  · obtain ⟨_, rfl⟩ : room < 5 ∧ e = .returned (.tuple #[.slice none 0 0, .int .i64 0, .int .i64 5]) := by
      rcases h2 with h2 | ⟨h2, _⟩
      · exact h2
      · omega
    clear h2
    go_wp2_with fail
    refine (refPack_law w2 ad n cap b (hb.below c2) (by omega) room).mono ?_
    intro e w3 h3
    unfold PackPost at h3
    obtain ⟨b3, h3⟩ := h3
    have c3 := c2.trans (b3.mono c2.size)
    obtain ⟨_, rfl⟩ : room < 5 ∧ e = .returned (.tuple #[.slice none 0 0, .int .i64 0, .int .i64 5]) := by
      rcases h3 with h3 | ⟨h3, _⟩
      · exact h3
      · omega
    clear h3
    have s0 : (convert 22 9 (.slice none 0 0)).run Try.prog w3 = .ok (.string (bstr [])) w3 := rstr (Rd.empty _ _)
    have s1 := rstr ((o1.rd.below b2).below b3)
    have s2 := rstr (hb.below c3)
    clear o1 b1 b2 b3 c2 hb
    go_wp2_with fail
    refine (packs_any _).mono ?_
    rintro e w9 ⟨rfl, b9⟩
    go_wp2_with fail
    go_ret
    exact ⟨rfl, c3.trans (b9.mono c3.size)⟩
  · obtain ⟨k, a2, k2, st, rfl, o2⟩ : ∃ k a c, Stop b room.toNat k ∧ e = .returned (.tuple #[.slice a (pkO b k).length c, .int .i64 (offP b k : Int), .int .i64 0]) ∧ Own w2 5 1 w1.heap.size a (pkO b k).length c (B8 (pkO b k)) := by
      rcases h2 with ⟨h2, _⟩ | ⟨_, h2⟩
      · omega
      · exact h2
    clear h2
    go_wp2_with fail
    refine (refPack_law w2 ad n cap b (hb.below c2) (by omega) room).mono ?_
    intro e w3 h3
    unfold PackPost at h3
    obtain ⟨b3, h3⟩ := h3
    have c3 := c2.trans (b3.mono c2.size)
    obtain ⟨k', a3, k3, st', rfl, o3⟩ : ∃ k a c, Stop b room.toNat k ∧ e = .returned (.tuple #[.slice a (pkO b k).length c, .int .i64 (offP b k : Int), .int .i64 0]) ∧ Own w3 5 1 w2.heap.size a (pkO b k).length c (B8 (pkO b k)) := by
      rcases h3 with ⟨h3, _⟩ | ⟨_, h3⟩
      · omega
      · exact h3
    clear h3
    obtain rfl := st.unique st'
    clear st'
    have s1 := rstr ((o1.rd.below b2).below b3)
    have s2 := rstr (hb.below c3)
    have s3 := rstr (o2.rd.below b3)
    have s4 := rstr o3.rd
    clear o1 o2 o3 b1 b2 b3 c2 hb st
    generalize pkO b k = o at *
    generalize offP b k = u at *
    generalize o.length = L at *
    go_wp2_with fail
    refine (packs_any _).mono ?_
    rintro e w9 ⟨rfl, b9⟩
    go_wp2_with fail
    go_ret
    exact ⟨rfl, c3.trans (b9.mono c3.size)⟩
end Go.Proofs.Ytjlhhbbciaeggaa
