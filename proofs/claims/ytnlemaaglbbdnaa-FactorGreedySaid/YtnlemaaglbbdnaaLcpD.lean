/- lcp.Heights: the loop over the iterator. -/
import Derived.Test.YtnlemaaglbbdnaaLcpC
namespace Go.Proofs.Ytnlemaaglbbdnaa
set_option linter.unusedSimpArgs false
set_option linter.unusedVariables false
open Go.RowKit Go.Shelf
attribute [local go_sem] Oper.semAt_some

theorem zerosN2 (m : Nat) : List.replicate m 0 = rowN (fun _ => 0) m := by
  apply atN_ext (by simp [rowN_len])
  intro j hj
  simp at hj
  rw [atN_row _ _ _ hj]
  simp [atN, hj]
theorem Ordered.good' {b : List UInt8} {r : Bool} {o : List Nat} (h : Ordered b r o) : Good (o.map fun c : Nat => (c : Int)) := h.good
theorem first_at (C : Nat → Bool) : ∀ m, ∃ k, k ≤ m ∧ (∀ q, q < k → C q = false) ∧ (k < m → C k = true)
  | 0 => ⟨0, Nat.le_refl _, fun q hq => by omega, fun h => by omega⟩
  | m + 1 => by
    obtain ⟨k, h1, h2, h3⟩ := first_at C m
    by_cases hk : k < m
    · exact ⟨k, by omega, h2, fun _ => h3 hk⟩
    · have : k = m := by omega
      subst this
      cases hc : C k with
      | true => exact ⟨k, by omega, h2, fun _ => hc⟩
      | false => exact ⟨k + 1, Nat.le_refl _, fun q hq => by
          by_cases e : q = k
          · rw [e]; exact hc
          · exact h2 q (by omega), fun h => by omega⟩
theorem Part.exists (b : List UInt8) (r : Bool) : ∀ m, m ≤ b.length → ∃ o, Part b r m o
  | 0, _ => ⟨[], Part.nil b r⟩
  | m + 1, hm => by
    obtain ⟨o, h⟩ := Part.exists b r m (by omega)
    obtain ⟨k, h1, h2, h3⟩ := first_at (fun q => !(Op.bytesLess (txt b r (atN o q)) (txt b r m) || txt b r (atN o q) == txt b r m)) m
    exact ⟨_, h.put (by omega) k h1 h2 h3⟩
theorem Ordered.exists (b : List UInt8) (r : Bool) : ∃ o, Ordered b r o := by
  obtain ⟨o, h⟩ := Part.exists b r b.length (Nat.le_refl _)
  exact ⟨o, h.all⟩

set_option maxRecDepth 100000 in
set_option maxHeartbeats 4000000 in
theorem heights_law (w : World) (ad : Option Addr) (n cap : Nat) (b : List UInt8) (hb : Rd w 1 ad n cap (B8 b)) (hn : n ≤ 100000) (rd : Option Addr) (m rc : Nat) (xs : List Int) (hx : Rd w 1 rd m rc (I64 xs)) (o : List Nat) (ho : Ordered b false o) :
    Calls Try.prog 21 #[.slice ad n cap, .slice rd m rc] w fun e w' => Below w.heap.size w w' ∧
      ((xs ≠ o.map (fun c : Nat => (c : Int)) ∧ e = .returned (.tuple #[.slice none 0 0, .int .i64 5])) ∨
       (xs = o.map (fun c : Nat => (c : Int)) ∧ ∃ g, e = .returned (.tuple #[.slice (some ⟨g, 0, none⟩) n n, .int .i64 0]) ∧ Own w' 3 1 w.heap.size (some ⟨g, 0, none⟩) n n (N64 (hgtL b o)))) := by
  have hl := hb.len8
  have HL := Lib.hid hl; clear hl
  by_cases heq : xs = o.map (fun c : Nat => (c : Int))
  · have hmn : m = n := by
      have h1 := hx.lenI
      rw [heq, List.length_map, ho.len, HL.out] at h1
      exact h1.symm
    subst hmn
    have hxn := hx
    rw [heq, ← N64_I64] at hxn
    have HEQ := Lib.hid heq; clear heq
    have HO := Lib.hid ho; clear ho
    have h63 : m ≤ maxLen := by unfold maxLen; omega
    have H1 := Lib.hid h63; clear h63
    have hby : 8 * m ≤ 281474976710656 := by omega
    have H2 := Lib.hid hby; clear hby
    refine (callsIn_wide (n := 9)).1 ?_
    refine callsIn_of_wp_marks Try.func21 rfl trivial ?_ rfl
    simp only [Try.ntmps21, List.size_toArray, List.length_cons, List.length_nil, Nat.reduceAdd, Nat.reduceSub, Array.replicate_succ, Array.replicate_zero, List.push_toArray, List.append_toArray, List.nil_append, List.cons_append]
    have hz : ∀ w : World, (zeroValue 28).run Try.prog w = .ok (.slice none 0 0) w := fun w => by kernel_rfl
    gi_wp2_with (refine ⟨trivial, ?_⟩; gi_at_call 19; refine (callsIn_wide.2 (ends_law w ad m cap b hb hn)).mono ?_; rintro e w2 ⟨g2, o2, rfl, own2, ho2, b2⟩)
    obtain rfl := HO.out.unique ho2
    clear ho2
    have hx2 := hx.below b2
    have hr2 := own2.rd
    rw [N64_I64] at hr2
    refine ⟨trivial, ?_⟩
    gi_at_call 30
    refine (callsIn_wide.2 (equal_law w2 _ _ _ _ _ _ _ _ hx2 hr2)).mono ?_
    rintro e w3 ⟨rfl, b3⟩
    have c3 := b2.trans (b3.mono b2.size)
    rw [show decide (xs = o.map (fun c : Nat => (c : Int))) = true from decide_eq_true HEQ.out]
    clear hr2 hx2 own2 b2 b3 hx
    gi_wp2_with (first
      | (refine wpListIn_mk (fun _ => trivial) rfl _ _ _ rfl tI rfl rfl m rfl rfl rfl rfl H1.out H2.out ?_; intro w4 o4 b4 s4)
      | (refine ⟨trivial, ?_⟩; gi_at_call 31; refine (callsIn_wide.2 (heights_any _ _ _ _ _ _ _)).mono ?_; rintro e w5 ⟨rfl, rfl⟩))
    obtain ⟨B, hB⟩ : ∃ B, w.heap.size = B := ⟨_, rfl⟩
    obtain ⟨Q, hQ⟩ : ∃ Q, w3.heap.size = Q := ⟨_, rfl⟩
    have hBQ : B ≤ Q := by have := c3.size; omega
    have hs4 : w4.heap.size = Q + 1 := by have := s4.out; omega
    have c4 : Below B w w4 := by have := c3.trans (b4.mono (by omega)); rwa [hB] at this
    rw [N64_zeros, hQ] at o4
    rw [hQ]
    have d0 := ((Boxed.new w4 28 (.slice (some ⟨Q, 0, none⟩) m m)).alloc (.cells #[.slice ad m cap] 22)).alloc (.cells #[.slice rd m rc] 28)
    have d1 := (Boxed.new (w4.alloc (.cells #[.slice (some ⟨Q, 0, none⟩) m m] 28)) 22 (.slice ad m cap)).alloc (.cells #[.slice rd m rc] 28)
    have d2 := Boxed.new ((w4.alloc (.cells #[.slice (some ⟨Q, 0, none⟩) m m] 28)).alloc (.cells #[.slice ad m cap] 22)) 28 (.slice rd m rc)
    have d3 := ((o4.alloc (.cells #[.slice (some ⟨Q, 0, none⟩) m m] 28)).alloc (.cells #[.slice ad m cap] 22)).alloc (.cells #[.slice rd m rc] 28)
    have c5 : Below B w (((w4.alloc (.cells #[.slice (some ⟨Q, 0, none⟩) m m] 28)).alloc (.cells #[.slice ad m cap] 22)).alloc (.cells #[.slice rd m rc] 28)) := ((c4.alloc (by omega) _).alloc (by simp; omega) _).alloc (by simp; omega) _
    have s5 : (((w4.alloc (.cells #[.slice (some ⟨Q, 0, none⟩) m m] 28)).alloc (.cells #[.slice ad m cap] 22)).alloc (.cells #[.slice rd m rc] 28)).heap.size = Q + 4 := by simp [hs4]
    simp only [World.size_alloc, hs4] at d0 d1 d2 ⊢
    have HB := Lib.hid hB; clear hB
    clear hQ hs4 s4 c4 o4 b4 c3
    generalize (((w4.alloc (.cells #[.slice (some ⟨Q, 0, none⟩) m m] 28)).alloc (.cells #[.slice ad m cap] 22)).alloc (.cells #[.slice rd m rc] 28)) = w5 at *
    have gd := HO.out.good'
    have inv := Inv.ofLast gd 0
    generalize hpl : rowN (fun v => last (o.map fun c : Nat => (c : Int)) (v : Int) 0 (o.map fun c : Nat => (c : Int)).length) (o.map fun c : Nat => (c : Int)).length = pl at *
    have HPL := Lib.hid hpl; clear hpl
    obtain ⟨hat, hpln⟩ := inv_nat HO.out.len gd inv
    rw [HL.out] at hat
    have hb5 := hb.below (show Below w.heap.size w w5 by rw [HB.out]; exact c5)
    have hx5 := hxn.below (show Below w.heap.size w w5 by rw [HB.out]; exact c5)
    have hblk : ∀ (a : Addr) (ad : Option Addr) (n c : Nat) (cs : List Value), Rd w 1 ad n c cs → 0 < n → ad = some a → a.block < B := fun a ad n c cs h h0 ha => by
      have hu : cs[0]? = some (cs[0]'(by have := h.len; omega)) := List.getElem?_eq_getElem _
      have h1 := h.cellAt hu
      have h2 := World.block_lt_of_cell? w _ h1
      rw [ha, sAt_some, add_block, HB.out] at h2; exact h2
    have hbk := fun a h0 ha => hblk a _ _ _ _ hb h0 ha
    have hxk := fun a h0 ha => hblk a _ _ _ _ hxn h0 ha
    have hseq := heights_seq 8 (Q + 3) (Q + 2) (Q + 6) (by omega) m b o pl hn ad rd cap rc HL.out HO.out inv w5 (by omega) d2 d1 hb5 hx5
    have HAT := Lib.hid hat; clear hat
    clear gd inv hpln hb5 hx5 hblk
    refine wpIn_rangeN rfl (by omega) (gf := 43) (lb := #[.pointer (some ⟨Q + 3, 0, none⟩), .pointer (some ⟨Q + 2, 0, none⟩)]) rfl trivial (enters_of Try.func43 (by kernel_rfl) rfl) hseq
      (fun r hr => by
        rcases hr with h | h | ⟨h0, a, ha, h⟩ | ⟨h0, a, ha, h⟩ | h
        · omega
        · omega
        · have := hbk a h0 ha; omega
        · have := hxk a h0 ha; omega
        · omega)
      (fun r hr => hr.elim) (Below.refl _ _) (fun _ => rfl)
      (fun k W => Below B w W ∧ Boxed W (Q + 1) 28 (.slice (some ⟨Q, 0, none⟩) m m) ∧ Own W 3 1 Q (some ⟨Q, 0, none⟩) m m (N64 (filled b o pl k)))
      (fun _ _ _ => False) ?hI (fun _ _ _ _ _ hs _ _ => hs.elim) ?h0
      (fun k => { tmps := #[.slice ad m cap, .slice rd m rc, undef, undef, .slice none 0 0, .int .i64 0, .pointer (some ⟨Q + 1, 0, none⟩), .int .i64 ((atN pl k : Nat) : Int), .int .i64 ((hgt b o (atN pl k) : Nat) : Int), .slice rd m rc, .slice ad m cap, .slice (some ⟨g2, 0, none⟩) m m, .bool true, .bool false, .slice rd m rc, .int .i64 m, .slice (some ⟨Q, 0, none⟩) m m, .slice ad m cap, .slice rd m rc, .func (.func 43) #[] #[.pointer (some ⟨Q + 3, 0, none⟩), .pointer (some ⟨Q + 2, 0, none⟩)], .int .i64 ((atN pl k : Nat) : Int), .int .i64 ((hgt b o (atN pl k) : Nat) : Int), undef, undef, undef, undef, undef], defers := [] })
      ?assign ?body ?done ?stop
    case hI =>
      rintro k W W' row ⟨h1, h2, h3⟩ hgr hr
      exact ⟨Abide.below (B := w5.heap.size) (wr := fun _ => False) (by rw [HB.out]; exact Nat.le_refl _) (by omega) (fun r hr => hr.elim) k W W' row h1 hgr hr, Abide.boxed _ (fun _ => Value.slice (some ⟨Q, 0, none⟩) m m) (fun h => h) k W W' row h2 hgr hr, h3.abide hgr hr (fun g hg h => h)⟩
    case h0 =>
      refine ⟨c5, d0, ?_⟩
      have e : filled b o pl 0 = List.replicate m 0 := by
        rw [filled, HL.out, zerosN2]
        exact rowN_congr _ _ _ fun k hk => by simp
      rw [e]; exact d3
    case assign =>
      intro l k W K hK
      dsimp only [htE]
      gi_wp2
      exact hK
    case body =>
      rintro l k W ⟨h1, h2, h3⟩ hk
      obtain ⟨hp1, hp2⟩ := HAT.out k hk
      have hst := filled_step (pl := pl) (k := k) HO.out (by rw [HL.out]; exact hp1) hp2
      generalize hgt b o (atN pl k) = hh at *
      generalize atN pl k = p at *
      have hp3 : (p : Int) < (m : Int) := by omega
      obtain ⟨cz, fz⟩ := h3.getN hp1
      have c1 := h2.cell
      have o6 := h3.setN p hh
      rw [hst] at o6
      have OX := Lib.hid o6; clear o6 hst
      gi_wp2
      refine ⟨(KeepsOthers.setCell _ _ _).from _, fun r hr => Below.heap_setCell _ _ _ r (by
        rcases hr with h | h | ⟨h0, a, ha, h⟩ | ⟨h0, a, ha, h⟩ | h
        · simp; omega
        · simp; omega
        · have := hbk a h0 ha; simp; omega
        · have := hxk a h0 ha; simp; omega
        · simp; omega), h1.setCell (p := ⟨Q, p, none⟩) hBQ _, (Below.heap_setCell W ⟨Q, p, none⟩ _ (Q + 1) (by simp)).trans h2, OX.out⟩
    case done =>
      rintro D W hD ⟨h1, h2, h3⟩ hK
      have hO := h2.cell
      have own := h3.abide (B := w5.heap.size) (wr := fun _ => False) (grownBy_putObj' W D (.deferred none)) (fun r e => by cases e; exact .inr ⟨hD, _, hK, rfl⟩) (fun _ _ h => h)
      have bel := h1.trans (belowK_b (n₀ := B) (w := w5) (by omega) W D _ (.deferred none) hD hK rfl rfl)
      have OWN := Lib.hid own; clear own
      have BEL := Lib.hid bel; clear bel
      gi_wp2
      refine ⟨by simp, .inl ⟨_, _, rfl, run_takeDeferred hK, ?_⟩⟩
      refine ⟨_, results_tmp2 rfl _ _ _, by rw [HB.out]; exact BEL.out, .inr ⟨HEQ.out, Q, rfl, ?_⟩⟩
      have e : filled b o pl m = hgtL b o := by
        rw [filled, hgtL]
        exact rowN_congr _ _ _ fun k hk => by rw [if_pos (by rw [← HL.out]; exact HO.out.ord.lt hk)]
      have h4 := OWN.out
      rw [e] at h4
      rw [HB.out]; exact h4.lower (by omega)
    case stop =>
      rintro D c k W hD _ h
      exact h.elim
  · go_enter Try.func21, Try.ntmps21
    have HEQ := Lib.hid heq; clear heq
    go_wp2_with fail
    refine (ends_law w ad n cap b hb hn).mono ?_
    rintro e w2 ⟨g2, o2, rfl, own2, ho2, b2⟩
    obtain rfl := ho.unique ho2
    clear ho2
    have hx2 := hx.below b2
    have hr2 := own2.rd
    rw [N64_I64] at hr2
    go_wp2_with fail
    refine (equal_law w2 _ _ _ _ _ _ _ _ hx2 hr2).mono ?_
    rintro e w3 ⟨rfl, b3⟩
    have c3 := b2.trans (b3.mono b2.size)
    rw [show decide (xs = o.map (fun c : Nat => (c : Int))) = false from decide_eq_false HEQ.out]
    clear hr2 hx2 own2 b2 b3 hx
    go_wp2_with fail
    refine bodyPost_ret (results_tmp2 rfl _ _ _) rfl ?_
    exact ⟨c3, .inl ⟨HEQ.out, rfl⟩⟩
end Go.Proofs.Ytnlemaaglbbdnaa
