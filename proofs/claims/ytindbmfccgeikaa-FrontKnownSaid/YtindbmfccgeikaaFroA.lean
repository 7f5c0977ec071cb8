/- The library's iterator over bytes, collected and sorted. -/
import Derived.Test.YtindbmfccgeikaaSrtO
import Derived.Test.YtindbmfccgeikaaSeq
import Derived.Test.YtindbmfccgeikaaRegL
import Derived.Test.YtindbmfccgeikaaAppZ
import Derived.Test.YtindbmfccgeikaaRep
namespace Go.Proofs.Ytindbmfccgeikaa
set_option linter.unusedSimpArgs false
set_option linter.unusedVariables false
open Go.RowKit Go.Shelf
attribute [local go_sem] Oper.semAt_some

/-- one byte -/
def byE (xs : List UInt8) (k : Nat) : Array Value := #[.int .u8 ((at8 xs k).toNat : Int)]
theorem Rd.blk8 {w : World} {ad : Option Addr} {n cap : Nat} {xs : List UInt8} (h : Rd w 1 ad n cap (B8 xs)) (hn : 0 < n) {a : Addr} (ha : ad = some a) : a.block < w.heap.size := by
  have hc := h.cell a ha 0 _ (B8_get xs 0 (by have := h.len8; omega))
  rw [← add_block a 0]
  unfold World.cell? at hc
  cases hq : w.heap[(a.add 0).block]? with
  | none => simp [hq] at hc
  | some o => exact (Array.getElem?_eq_some_iff.1 hq).1
theorem take_at8 (xs : List UInt8) (k : Nat) (h : k < xs.length) : B8 (xs.take k) ++ [.int .u8 ((at8 xs k).toNat : Int)] = B8 (xs.take (k + 1)) := by
  have e : xs.take (k + 1) = xs.take k ++ [at8 xs k] := by
    rw [List.take_add_one, List.getElem?_eq_getElem h]
    simp [at8, List.getD_eq_getElem?_getD, h]
  rw [e, ← B8_app]; rfl

set_option maxRecDepth 100000 in
set_option maxHeartbeats 2000000 in
theorem vals_in (m l Bs : Nat) (hm : 1 ≤ m) (ad : Option Addr) (n cap : Nat) (xs : List UInt8) (hn : n ≤ 1000000) (J Jx : Nat → World → Prop)
    (hY : ∀ k W1, J k W1 → k < n → YieldAt Fence.wide (m - 1) Try.prog l (byE xs k) W1 fun e W' =>
      (e = .returned (.bool true) ∧ J (k + 1) W' ∧ KeepB (fun r => r = Bs ∨ (0 < n ∧ ∃ a, ad = some a ∧ r = a.block)) W1 W') ∨ (e = .returned (.bool false) ∧ Jx (k + 1) W'))
    (W : World) (hBs : Boxed W Bs 22 (.slice ad n cap)) (hc : Rd W 1 ad n cap (B8 xs)) (h0 : J 0 W) :
    CallsIn Fence.wide m Try.prog 27 #[.func (.yield l) #[] #[], .pointer (some ⟨Bs, 0, none⟩)] W fun e W' => (∃ v, e = .returned v) ∧
      (J n W' ∨ ∃ k, k ≤ n ∧ Jx k W') := by
  refine callsIn_of_wp Try.func27 rfl trivial ?_ rfl
  simp only [Try.ntmps27, List.size_toArray, List.length_cons, List.length_nil, Nat.reduceAdd, Nat.reduceSub, Array.replicate_succ, Array.replicate_zero, List.push_toArray, List.append_toArray, List.nil_append, List.cons_append]
  have cB := hBs.cell
  gi_wp2
  clear cB
  gi_loopw [7] (fun i wr => ∃ k : Nat, k ≤ n ∧ i = .int .i64 k ∧ J k wr ∧ Rd wr 1 ad n cap (B8 xs)) (fun i _ => n - (intOf i).toNat)
  case atStart => exact ⟨0, Nat.zero_le _, rfl, h0, hc⟩
  case round =>
    clear h0 hBs hc
    obtain ⟨k, hk, rfl, hJs, hcw⟩ := hrel
    rename World => wr
    by_cases hlt : k < n
    · obtain ⟨hne, hcx⟩ := hcw.get8 hlt
      obtain ⟨fn, tmps, assign, body, hy, hR⟩ := hY k _ hJs hlt
      dsimp only [byE] at hy
      generalize at8 xs k = x at *
      gi_wp2
      refine hR.mono ?_
      rintro e W3 (⟨rfl, hJ3, hk3⟩ | ⟨rfl, hJx3⟩)
      · have hc3 := hcw.keep (w' := W3) fun a ha => hk3 a.block (.inr ⟨by omega, a, ha, rfl⟩)
        gi_wp2
        go_roundw
        case rel => exact ⟨k + 1, by omega, by simp, hJ3, hc3⟩
        case measure => simp [intOf]; omega
      · gi_wp2
        refine bodyPost_ret (results_none rfl _ _ _) rfl ?_
        exact ⟨⟨_, rfl⟩, .inr ⟨_, by omega, hJx3⟩⟩
    · obtain rfl : k = n := by omega
      gi_wp2
      go_end0
      exact ⟨⟨_, rfl⟩, .inl hJs⟩

theorem vals_seq (m : Nat) (hm : 1 ≤ m) (Bs : Nat) (ad : Option Addr) (n cap : Nat) (xs : List UInt8) (hn : n ≤ 1000000) (w : World) (hBs : Boxed w Bs 22 (.slice ad n cap)) (hc : Rd w 1 ad n cap (B8 xs)) :
    SeqN Fence.wide m Try.prog 27 #[.pointer (some ⟨Bs, 0, none⟩)] (byE xs) (fun r => r = Bs ∨ (0 < n ∧ ∃ a, ad = some a ∧ r = a.block)) (fun _ => False) n w :=
  fun l J Jx W hW2 _ hJ _ hY h0 => vals_in m l Bs hm ad n cap xs hn J Jx hY W ((hW2.block _ hBs.lt).trans hBs) (hc.below hW2) h0

theorem vals_any (w : World) (ad : Option Addr) (n cap : Nat) :
    Calls Try.prog 17 #[.slice ad n cap] w fun e w' => e = .returned (.func (.func 27) #[] #[.pointer (some ⟨w.heap.size, 0, none⟩)]) ∧ w.alloc (.cells #[.slice ad n cap] 22) = w' := by
  go_enter Try.func17, Try.ntmps17
  go_wp2
  go_ret
  exact ⟨rfl, rfl⟩

set_option maxRecDepth 100000 in
set_option maxHeartbeats 4000000 in
theorem appseq_law (w : World) (Bs : Nat) (ad : Option Addr) (n cap : Nat) (xs : List UInt8) (hn : n ≤ 1000000) (hBs : Boxed w Bs 22 (.slice ad n cap)) (hb : Rd w 1 ad n cap (B8 xs)) :
    Calls Try.prog 34 #[.slice none 0 0, .func (.func 27) #[] #[.pointer (some ⟨Bs, 0, none⟩)]] w fun e w' =>
      ∃ a c, e = .returned (.slice a n c) ∧ Own w' 5 1 w.heap.size a n c (B8 xs) ∧ Below w.heap.size w w' := by
  have hl := hb.len8
  have HL := Lib.hid hl; clear hl
  have hBlt := hBs.lt
  have hbl : ∀ a, 0 < n → ad = some a → a.block < w.heap.size := fun a h0 ha => hb.blk8 h0 ha
  refine (callsIn_wide (n := 9)).1 ?_
  refine callsIn_of_wp_marks Try.func34 rfl trivial ?_ rfl
  simp only [Try.ntmps34, List.size_toArray, List.length_cons, List.length_nil, Nat.reduceAdd, Nat.reduceSub, Array.replicate_succ, Array.replicate_zero, List.push_toArray, List.append_toArray, List.nil_append, List.cons_append]
  gi_wp2
  obtain ⟨B, hB⟩ : ∃ B, w.heap.size = B := ⟨_, rfl⟩
  have e1 := Boxed.new w 22 (.slice none 0 0)
  have e2 := hBs.alloc (.cells #[.slice none 0 0] 22)
  have e3 := hb.alloc (.cells #[.slice none 0 0] 22)
  have c1 : Below B w (w.alloc (.cells #[.slice none 0 0] 22)) := (Below.refl _ w).alloc (by omega) _
  have sz : (w.alloc (.cells #[.slice none 0 0] 22)).heap.size = B + 1 := by simp [hB]
  rw [hB] at e1 hBlt hbl ⊢
  have hbl2 : ∀ a, 0 < n → ad = some a → a.block < B := fun a h0 ha => hbl a h0 ha
  clear hBs hb hbl
  have HB := Lib.hid hB; clear hB
  generalize w.alloc (.cells #[.slice none 0 0] 22) = w5 at *
  have hs5 := sz
  have hseq := vals_seq 8 (by omega) Bs ad n cap xs hn w5 e2 e3
  refine wpIn_rangeN rfl (by omega) (gf := 27) (lb := #[.pointer (some ⟨Bs, 0, none⟩)]) rfl trivial (enters_of Try.func27 (by kernel_rfl) rfl) hseq
    (fun r hr => by rw [hs5]; rcases hr with h | ⟨h0, a, ha, h⟩; omega; have := hbl2 a h0 ha; omega) (fun r hr => hr.elim) (Below.refl _ _) (fun _ => rfl)
    (fun k W => Below B w W ∧ ∃ a c, Boxed W B 22 (.slice a k c) ∧ Own W 5 1 (B + 1) a k c (B8 (xs.take k)) ∧ B + 1 ≤ W.heap.size)
    (fun _ _ _ => False) ?hI (fun _ _ _ _ _ hs _ _ => hs.elim) ?h0
    (fun k => { tmps := #[.slice none 0 0, .func (.func 27) #[] #[.pointer (some ⟨Bs, 0, none⟩)], .pointer (some ⟨B, 0, none⟩), undef, .slice none 0 0, .int .u8 ((at8 xs k).toNat : Int), .func (.func 27) #[] #[.pointer (some ⟨Bs, 0, none⟩)], .int .u8 ((at8 xs k).toNat : Int), undef, undef, undef, undef, undef], defers := [] })
    ?assign ?body ?done ?stop
  case hI =>
    rintro k W W' row ⟨h1, a, c, h3, h4, h5⟩ hgr hr
    refine ⟨Abide.below (B := w5.heap.size) (wr := fun _ => False) (by rw [HB.out]; exact Nat.le_refl _) (by omega) (fun r hr => hr.elim) k W W' row h1 hgr hr,
      a, c, Abide.boxed _ (fun _ => Value.slice a k c) (fun h => h) k W W' row h3 hgr hr, h4.abide hgr hr (fun g hg h => h), Nat.le_trans h5 hgr.size⟩
  case h0 => exact ⟨c1, none, 0, e1, by simp [B8]; exact Own.nil _ _ _ _, by omega⟩
  case assign =>
    intro l k W K hK
    dsimp only [byE]
    gi_wp2
    exact hK
  case body =>
    rintro l k W ⟨h1, a, c, h3, h4, h5⟩ hk
    have htk := take_at8 xs k (by rw [HL.out]; exact hk)
    generalize at8 xs k = x at *
    have HT := Lib.hid htk; clear htk
    have cB := h3.cell
    have fB := h3.frozen
    gi_wp2_with (refine wpListIn_push (fun _ => trivial) rfl _ _ _ rfl elB rfl rfl h4 (ys := [.int .u8 (x.toNat : Int)]) rfl (by simp [Value.oneCell']) (by unfold maxLen; omega) (by omega) h5 ?_
                 intro a' c' w' o' g' n'
                 have gx : ∀ j, j < B + 1 → w'.heap[j]? = W.heap[j]? := fun j hj => g'.block j (by omega) (fun e => by
                   obtain ⟨_, hc⟩ := h4.cases
                   rcases hc with ⟨h, _⟩ | ⟨x, cur, h, hb, _⟩
                   · rw [h] at e; cases e
                   · rw [h] at e; simp [bOf] at e; omega)
                 have h3' : Boxed w' B 22 (.slice a k c) := (gx B (by omega)).trans h3
                 have cB' := h3'.cell
                 have fB' := h3'.frozen)
    have b' : Below B w w' := Own.grown h1 h4 g' (by omega) (by omega)
    have k' : KeepsFrom w5.heap.size W w' := (KeepsOthers.of_grownBy g' (fun j o hj ho => by
        obtain ⟨_, hc⟩ := h4.cases
        rcases hc with ⟨h, _⟩ | ⟨x, cur, h, hb, hcur, _⟩
        · rw [h] at hj; cases hj
        · rw [h] at hj; cases hj; rw [hcur] at ho; cases ho; rfl)).from _
    rw [HT.out] at o'
    refine ⟨k'.trans ((KeepsOthers.setCell _ _ _).from _), KeepB.trans (fun r hr => gx r ?_) (fun r hr => Below.heap_setCell _ _ _ r ?_), b'.setCell (by simp) _, a', c', h3'.set _, o'.setOther _ _ (fun g hg => by have := (o'.blk hg).1; simp; omega), by have := g'.size; simp; omega⟩
    · rcases hr with h | ⟨h0, a, ha, h⟩
      · omega
      · have := hbl2 a h0 ha; omega
    · rcases hr with h | ⟨h0, a, ha, h⟩
      · simp; omega
      · have := hbl2 a h0 ha; simp; omega
  case done =>
    rintro D W hD ⟨h1, a, c, h3, h4, h5⟩ hK
    have hO := h3.cell
    have own := h4.abide (B := w5.heap.size) (wr := fun _ => False) (grownBy_putObj' W D (.deferred none)) (fun r e => by cases e; exact .inr ⟨hD, _, hK, rfl⟩) (fun _ _ h => h)
    have bel := h1.trans (belowK_b (n₀ := B) (w := w5) (by omega) W D _ (.deferred none) hD hK rfl rfl)
    have OWN := Lib.hid own; clear own
    have BEL := Lib.hid bel; clear bel
    gi_wp2
    refine ⟨by simp, .inl ⟨_, _, rfl, run_takeDeferred hK, ?_⟩⟩
    refine ⟨_, results_tmp rfl _ _ _, a, c, rfl, ?_, by rw [HB.out]; exact BEL.out⟩
    have := OWN.out
    rw [HB.out]
    rw [List.take_of_length_le (by rw [HL.out]; exact Nat.le_refl _)] at this
    exact this.lower (by omega)
  case stop =>
    rintro D c k W hD _ h
    exact h.elim
theorem collect_law (w : World) (Bs : Nat) (ad : Option Addr) (n cap : Nat) (xs : List UInt8) (hn : n ≤ 1000000) (hBs : Boxed w Bs 22 (.slice ad n cap)) (hb : Rd w 1 ad n cap (B8 xs)) :
    Calls Try.prog 25 #[.func (.func 27) #[] #[.pointer (some ⟨Bs, 0, none⟩)]] w fun e w' =>
      ∃ a c, e = .returned (.slice a n c) ∧ Own w' 5 1 w.heap.size a n c (B8 xs) ∧ Below w.heap.size w w' := by
  go_enter Try.func25, Try.ntmps25
  go_wp2_with fail
  refine (appseq_law w Bs ad n cap xs hn hBs hb).mono ?_
  rintro e w2 ⟨a, c, rfl, o2, b2⟩
  go_wp2_with fail
  go_ret
  exact ⟨a, c, rfl, o2, b2⟩

theorem sorted_law (w : World) (Bs : Nat) (ad : Option Addr) (n cap : Nat) (xs : List UInt8) (hn : n ≤ 1000000) (hBs : Boxed w Bs 22 (.slice ad n cap)) (hb : Rd w 1 ad n cap (B8 xs)) :
    Calls Try.prog 16 #[.func (.func 27) #[] #[.pointer (some ⟨Bs, 0, none⟩)]] w fun e w' =>
      ∃ a c, e = .returned (.slice a n c) ∧ Own w' 5 1 w.heap.size a n c (B8 (srtL xs)) ∧ Below w.heap.size w w' := by
  have hl := hb.len8
  go_enter Try.func16, Try.ntmps16
  go_wp2_with fail
  refine (collect_law w Bs ad n cap xs hn hBs hb).mono ?_
  rintro e w2 ⟨a, c, rfl, o2, b2⟩
  obtain ⟨_, hc⟩ := o2.cases
  rcases hc with ⟨rfl, rfl, rfl⟩ | ⟨g, cur, rfl, hg, _⟩
  · obtain rfl : xs = [] := List.eq_nil_of_length_eq_zero hl
    clear hb hBs
    go_wp2_with fail
    refine (srt_none w2).mono ?_
    rintro e w3 ⟨rfl, rfl⟩
    go_wp2_with fail
    go_ret
    exact ⟨none, 0, rfl, by rw [show srtL [] = [] from List.eq_nil_of_length_eq_zero (by rw [srtL_len]; rfl)]; exact o2, b2⟩
  · have h3 := srt_own w2 w.heap.size g n c xs o2 hn
    have hlo := o2
    clear hb hBs
    go_wp2_with fail
    refine h3.mono ?_
    rintro e w3 ⟨rfl, o3, g3⟩
    go_wp2_with fail
    go_ret
    exact ⟨_, c, rfl, o3, Own.grown b2 hlo g3 b2.size (Nat.le_refl _)⟩
end Go.Proofs.Ytindbmfccgeikaa
