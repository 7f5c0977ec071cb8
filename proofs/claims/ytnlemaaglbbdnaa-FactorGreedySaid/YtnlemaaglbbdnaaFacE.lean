/- factor.indexed: the walk. -/
import Derived.Test.YtnlemaaglbbdnaaFacD
namespace Go.Proofs.Ytnlemaaglbbdnaa
set_option linter.unusedSimpArgs false
set_option linter.unusedVariables false
open Go.RowKit Go.Shelf
attribute [local go_sem] Oper.semAt_some

theorem six_own (w : World) (t : TypeId) (a b c d e f : Value) (ha : a.oneCell' = true) (hb : b.oneCell' = true) (hc : c.oneCell' = true) (hd : d.oneCell' = true) (he : e.oneCell' = true) (hf : f.oneCell' = true) :
    Own (w.alloc (.cells #[a, b, c, d, e, f] t)) t 1 w.heap.size (some ⟨w.heap.size, 0, none⟩) 6 6 [a, b, c, d, e, f] :=
  ⟨⟨rfl, .inr ⟨w.heap.size, 6, #[a, b, c, d, e, f], rfl, Nat.le_refl _, heap_alloc_new w _, Nat.le_refl _, by decide, rfl, rfl⟩⟩, fun u hu => by simp at hu; rcases hu with rfl | rfl | rfl | rfl | rfl | rfl <;> assumption⟩
theorem six_cells {w : World} {t lo X : Nat} {a b c d e f : Value} (h : Own w t 1 lo (some ⟨X, 0, none⟩) 6 6 [a, b, c, d, e, f]) : w.heap[X]? = some (.cells #[a, b, c, d, e, f] t (0, 0)) := by
  obtain ⟨_, hc⟩ := h.cases
  rcases hc with ⟨h1, _⟩ | ⟨g, cur, h1, _, h2, _, _, h3, h4⟩
  · cases h1
  · cases h1
    have : cur = #[a, b, c, d, e, f] := by
      apply Array.toList_inj.1
      have hl : cur.toList.length = 6 := by simpa using h3
      rw [← h4, List.take_of_length_le (by omega)]
    rw [h2, this]

theorem Rd.setFar {w : World} {ad : Option Addr} {n cap : Nat} {cs : List Value} (h : Rd w 1 ad n cap cs) (p : Addr) (v : Value) (hne : ∀ a, ad = some a → 0 < n → a.block ≠ p.block) : Rd (w.setCell p v) 1 ad n cap cs := by
  rcases Nat.eq_zero_or_pos n with h0 | h0
  · refine ⟨h.len, h.ncap, h.capM, h.nil, h.one, fun a ha j u hu => ?_⟩
    have hl := h.len
    rw [h0] at hl
    have : cs = [] := List.eq_nil_of_length_eq_zero (by simpa using hl)
    rw [this] at hu; simp at hu
  · exact h.setOther p v fun a ha => hne a ha h0
set_option maxRecDepth 100000 in
set_option maxHeartbeats 4000000 in
theorem indexed_law (w : World) (ad : Option Addr) (n cap : Nat) (b : List UInt8) (hb : Rd w 1 ad n cap (B8 b)) (hn : n ≤ 100000) (o : List Nat) (ho : Ordered b false o) :
    Calls Try.prog 13 #[.slice ad n cap] w fun e w' => ∃ X, e = .returned (.pointer (some ⟨X, 0, none⟩)) ∧ ∃ g1 g2 g3 g4 g5 pl, Idx w' X n ad cap g1 g2 g3 g4 g5 b o pl ∧ (∀ i, i < n → atN pl i = plc o i) ∧ Below w.heap.size w w' := by
  have hl := hb.len8
  obtain ⟨B, hB⟩ : ∃ B, w.heap.size = B := ⟨_, rfl⟩
  have HL := Lib.hid hl; clear hl
  have HO := Lib.hid ho; clear ho
  refine (callsIn_wide (n := 9)).1 ?_
  refine callsIn_of_wp Try.func13 rfl trivial ?_ rfl
  simp only [Try.ntmps13, List.size_toArray, List.length_cons, List.length_nil, Nat.reduceAdd, Nat.reduceSub, Array.replicate_succ, Array.replicate_zero, List.push_toArray, List.append_toArray, List.nil_append, List.cons_append]
  have hz : ∀ w : World, (zeroValue 28).run Try.prog w = .ok (.slice none 0 0) w := fun w => by kernel_rfl
  gi_wp2_with (refine ⟨trivial, ?_⟩; gi_at_call 19; refine (callsIn_wide.2 (ends_law w ad n cap b hb hn)).mono ?_; rintro e w2 ⟨g1, o2, rfl, own1, ho2, b2⟩)
  obtain rfl := HO.out.unique ho2
  clear ho2 hz
  obtain ⟨X, hX⟩ : ∃ X, w2.heap.size = X := ⟨_, rfl⟩
  rw [hB] at own1 b2
  have hBX : B ≤ X := by have := b2.size; omega
  have gd := HO.out.good
  have ox := six_own w2 48 (.slice ad n cap) (.slice (some ⟨g1, 0, none⟩) n n) (.slice none 0 0) (.slice none 0 0) (.slice none 0 0) (.slice none 0 0) rfl rfl rfl rfl rfl rfl
  have o1 := own1.alloc (.cells #[.slice ad n cap, .slice (some ⟨g1, 0, none⟩) n n, .slice none 0 0, .slice none 0 0, .slice none 0 0, .slice none 0 0] 48)
  have b3 := b2.alloc (by omega) (.cells #[.slice ad n cap, .slice (some ⟨g1, 0, none⟩) n n, .slice none 0 0, .slice none 0 0, .slice none 0 0, .slice none 0 0] 48)
  have hXl : X < (w2.alloc (.cells #[.slice ad n cap, .slice (some ⟨g1, 0, none⟩) n n, .slice none 0 0, .slice none 0 0, .slice none 0 0, .slice none 0 0] 48)).heap.size := by simp; omega
  have hg1X : g1 < X := by have := (own1.blk rfl).2; omega
  rw [hX] at ox ⊢
  clear own1 b2 hX
  generalize w2.alloc (.cells #[.slice ad n cap, .slice (some ⟨g1, 0, none⟩) n n, .slice none 0 0, .slice none 0 0, .slice none 0 0, .slice none 0 0] 48) = w3 at *
  have r1 := o1.rd
  rw [N64_I64] at r1
  refine ⟨trivial, callsIn_wide.2 ?_⟩
  refine (places_law w3 _ n _ _ r1 hn).mono ?_
  rintro e w4 ⟨hcase, b4⟩
  rcases hcase with ⟨hbad, _⟩ | ⟨_, g2, pl, rfl, own2, hinv⟩
  · exact absurd gd hbad
  have hpl : ∀ i, i < n → atN pl i = plc o i := fun i hi => plc_inv HO.out hinv (by rw [HL.out]; exact hi)
  have HPL := Lib.hid hpl; clear hpl gd hinv r1
  have c4 := b3.trans (b4.mono (by omega))
  replace ox := ox.below b4
  replace o1 := o1.below b4
  have hg2 := (own2.blk rfl).1
  have h4l : X < w4.heap.size := Nat.lt_of_lt_of_le hXl b4.size
  clear b3 b4
  have e2 := (Own.read ox (j := 2) rfl)
  have e2c := e2.1
  have e2f := e2.2
  replace ox := ox.set 2 (.slice (some ⟨g2, 0, none⟩) n n) rfl
  replace o1 := o1.setOther ⟨X, 2, none⟩ (.slice (some ⟨g2, 0, none⟩) n n) (fun g hg => by cases hg; simp; omega)
  replace own2 := own2.setOther ⟨X, 2, none⟩ (.slice (some ⟨g2, 0, none⟩) n n) (fun g hg => by cases hg; simp; omega)
  have c5 := c4.setCell (p := ⟨X, 2, none⟩) hBX (.slice (some ⟨g2, 0, none⟩) n n)
  have h5l : X < (w4.setCell ⟨X, 2, none⟩ (.slice (some ⟨g2, 0, none⟩) n n)).heap.size := by simpa using h4l
  dsimp only [List.set] at ox
  clear e2 c4 h4l
  have e1 := (Own.read ox (j := 1) rfl).1
  have r1 := o1.rd
  rw [N64_I64] at r1
  have hb5 := hb.below (show Below w.heap.size w (w4.setCell ⟨X, 2, none⟩ (.slice (some ⟨g2, 0, none⟩) n n)) by rw [hB]; exact c5)
  have hlaw := heights_law (w4.setCell ⟨X, 2, none⟩ (.slice (some ⟨g2, 0, none⟩) n n)) ad n cap b hb5 hn _ _ _ _ r1 o HO.out
  have OX := Lib.hid ox; have O1 := Lib.hid o1; have O2 := Lib.hid own2; have C5 := Lib.hid c5; have H5 := Lib.hid h5l
  clear ox o1 own2 c5 h5l r1 hb5
  gi_wp2
  refine ⟨trivial, callsIn_wide.2 ?_⟩
  refine hlaw.mono ?_
  rintro e w6 ⟨b6, hcase⟩
  rcases hcase with ⟨hbad, _⟩ | ⟨_, g3, rfl, own3⟩
  · exact absurd rfl hbad
  have ox6 := OX.out.below b6
  have e3c := (Own.read ox6 (j := 3) rfl).1
  have e3f := (Own.read ox6 (j := 3) rfl).2
  gi_wp2
  have c6 := C5.out.trans (b6.mono (by have := C5.out.size; omega))
  have o16 := O1.out.below b6
  have o26 := O2.out.below b6
  have h6l := Nat.lt_of_lt_of_le H5.out b6.size
  have h5l := H5.out
  have hg3 := (own3.blk rfl).1
  clear OX O1 O2 C5 H5 hlaw b6 e1 e2c e2f
  have ox := ox6.set 3 (.slice (some ⟨g3, 0, none⟩) n n) rfl
  have o1 := o16.setOther ⟨X, 3, none⟩ (.slice (some ⟨g3, 0, none⟩) n n) (fun g hg => by cases hg; simp; omega)
  have o2 := o26.setOther ⟨X, 3, none⟩ (.slice (some ⟨g3, 0, none⟩) n n) (fun g hg => by cases hg; simp; omega)
  have o3 := own3.setOther ⟨X, 3, none⟩ (.slice (some ⟨g3, 0, none⟩) n n) (fun g hg => by cases hg; simp; omega)
  have c7 := c6.setCell (p := ⟨X, 3, none⟩) hBX (.slice (some ⟨g3, 0, none⟩) n n)
  have h7l : X < (w6.setCell ⟨X, 3, none⟩ (.slice (some ⟨g3, 0, none⟩) n n)).heap.size := by simpa using h6l
  dsimp only [List.set] at ox
  have hBg3 : X < g3 := by omega
  clear ox6 o16 o26 own3 c6 e3c e3f h6l h5l
  generalize w6.setCell ⟨X, 3, none⟩ (.slice (some ⟨g3, 0, none⟩) n n) = w7 at *
  have hBg2 : X < g2 := by omega
  have r1 := o1.rd
  have r2 := o2.rd
  have r3 := o3.rd
  have r0 := hb.below (show Below w.heap.size w w7 by rw [hB]; exact c7)
  rw [N64_I64] at r1
  clear o1 o2 o3 hg2 hg3 hXl
  have e1 := (Own.read ox (j := 1) rfl).1
  refine regionT [0, 1, 2, 3, 4, 5, 7, 8, 9, 10, 12, 13, 15, 16] (fun w' => w'.cell? ⟨X, 1, none⟩ = some (.slice (some ⟨g1, 0, none⟩) n n)) (by kernel_rfl) ?_
  have hSS : (fun w' : World => w'.cell? ⟨X, 1, none⟩ = some (.slice (some ⟨g1, 0, none⟩) n n)) w7.drew := e1
  refine AnyT.take (i := 0) (v := ?_) (by decide) (by kernel_rfl) rfl (by kernel_rfl) (by kernel_rfl) (by kernel_rfl) (by kernel_rfl) (fun _ _ _ h => h) (by assumption) (by rfl) (fun _ => rfl) ?_ ?_
  rotate_left
  focus (intro w hSw; (try dsimp only at hSw); go_split_ands; go_simp; (try with_reducible rfl))
  (try simp only [Act.put, List.setIfInBounds_toArray, List.set_cons_zero, List.set_cons_succ, Array.setIfInBounds_toArray])
  refine AnyT.take (i := 1) (v := ?_) (by decide) (by kernel_rfl) rfl (by kernel_rfl) (by kernel_rfl) (by kernel_rfl) (by kernel_rfl) (fun _ _ _ h => h) (by assumption) (by rfl) (fun _ => rfl) ?_ ?_
  rotate_left
  focus (intro w hSw; (try dsimp only at hSw); go_split_ands; go_simp; (try with_reducible rfl))
  (try simp only [Act.put, List.setIfInBounds_toArray, List.set_cons_zero, List.set_cons_succ, Array.setIfInBounds_toArray])
  refine AnyT.take (i := 2) (v := ?_) (by decide) (by kernel_rfl) rfl (by kernel_rfl) (by kernel_rfl) (by kernel_rfl) (by kernel_rfl) (fun _ _ _ h => h) (by assumption) (by rfl) (fun _ => rfl) ?_ ?_
  rotate_left
  focus (intro w hSw; (try dsimp only at hSw); go_split_ands; go_simp; (try with_reducible rfl))
  (try simp only [Act.put, List.setIfInBounds_toArray, List.set_cons_zero, List.set_cons_succ, Array.setIfInBounds_toArray])
  refine AnyT.take (i := 3) (v := ?_) (by decide) (by kernel_rfl) rfl (by kernel_rfl) (by kernel_rfl) (by kernel_rfl) (by kernel_rfl) (fun _ _ _ h => h) (by assumption) (by rfl) (fun _ => rfl) ?_ ?_
  rotate_left
  focus (intro w hSw; (try dsimp only at hSw); go_split_ands; go_simp; (try with_reducible rfl))
  (try simp only [Act.put, List.setIfInBounds_toArray, List.set_cons_zero, List.set_cons_succ, Array.setIfInBounds_toArray])
  refine AnyT.take (i := 4) (v := ?_) (by decide) (by kernel_rfl) rfl (by kernel_rfl) (by kernel_rfl) (by kernel_rfl) (by kernel_rfl) (fun _ _ _ h => h) (by assumption) (by rfl) (fun _ => rfl) ?_ ?_
  rotate_left
  focus (intro w hSw; (try dsimp only at hSw); go_split_ands; go_simp; (try with_reducible rfl))
  (try simp only [Act.put, List.setIfInBounds_toArray, List.set_cons_zero, List.set_cons_succ, Array.setIfInBounds_toArray])
  refine AnyT.take (i := 5) (v := ?_) (by decide) (by kernel_rfl) rfl (by kernel_rfl) (by kernel_rfl) (by kernel_rfl) (by kernel_rfl) (fun _ _ _ h => h) (by assumption) (by rfl) (fun _ => rfl) ?_ ?_
  rotate_left
  focus (intro w hSw; (try dsimp only at hSw); go_split_ands; go_simp; (try with_reducible rfl))
  (try simp only [Act.put, List.setIfInBounds_toArray, List.set_cons_zero, List.set_cons_succ, Array.setIfInBounds_toArray])
  refine AnyT.take (i := 7) (v := ?_) (by decide) (by kernel_rfl) rfl (by kernel_rfl) (by kernel_rfl) (by kernel_rfl) (by kernel_rfl) (fun _ _ _ h => h) (by assumption) (by rfl) (fun _ => rfl) ?_ ?_
  rotate_left
  focus (intro w hSw; (try dsimp only at hSw); go_split_ands; go_simp; (try with_reducible rfl))
  (try simp only [Act.put, List.setIfInBounds_toArray, List.set_cons_zero, List.set_cons_succ, Array.setIfInBounds_toArray])
  refine AnyT.take (i := 8) (v := ?_) (by decide) (by kernel_rfl) rfl (by kernel_rfl) (by kernel_rfl) (by kernel_rfl) (by kernel_rfl) (fun _ _ _ h => h) (by assumption) (by rfl) (fun _ => rfl) ?_ ?_
  rotate_left
  focus (intro w hSw; (try dsimp only at hSw); go_split_ands; go_simp; (try with_reducible rfl))
  (try simp only [Act.put, List.setIfInBounds_toArray, List.set_cons_zero, List.set_cons_succ, Array.setIfInBounds_toArray])
  refine AnyT.take (i := 9) (v := ?_) (by decide) (by kernel_rfl) rfl (by kernel_rfl) (by kernel_rfl) (by kernel_rfl) (by kernel_rfl) (fun _ _ _ h => h) (by assumption) (by rfl) (fun _ => rfl) ?_ ?_
  rotate_left
  focus (intro w hSw; (try dsimp only at hSw); go_split_ands; go_simp; (try with_reducible rfl))
  (try simp only [Act.put, List.setIfInBounds_toArray, List.set_cons_zero, List.set_cons_succ, Array.setIfInBounds_toArray])
  refine AnyT.take (i := 10) (v := ?_) (by decide) (by kernel_rfl) rfl (by kernel_rfl) (by kernel_rfl) (by kernel_rfl) (by kernel_rfl) (fun _ _ _ h => h) (by assumption) (by rfl) (fun _ => rfl) ?_ ?_
  rotate_left
  focus (intro w hSw; (try dsimp only at hSw); go_split_ands; go_simp; (try with_reducible rfl))
  (try simp only [Act.put, List.setIfInBounds_toArray, List.set_cons_zero, List.set_cons_succ, Array.setIfInBounds_toArray])
  refine AnyT.only (i := 6) (by decide +kernel) rfl (by rfl) (fun K hK => ?_)
  go_simp
  refine callWide (ahead_any w7.drew _ n n _ r1.drew hn) ?_
  rintro e w8 ⟨g4, rfl, o4, b8⟩
  have b8' : Below w7.heap.size w7.drew w8 := b8
  have sd8 : w7.drew.heap.size = w7.heap.size := rfl
  go_simp
  have hS8 := cell_below (show w7.drew.cell? _ = _ from e1) b8
  refine hK.out _ _ (fun _ => hS8) ?_
  clear hK K
  have hSS8 : (fun w' : World => w'.cell? ⟨X, 1, none⟩ = some (.slice (some ⟨g1, 0, none⟩) n n)) w8 := hS8
  refine AnyT.only (i := 11) (by decide +kernel) rfl (by rfl) (fun K hK => ?_)
  go_simp
  refine callWide (behind_any w8 _ n n _ (r1.drew.below b8) hn) ?_
  rintro e w9 ⟨g5, rfl, o5, b9⟩
  go_simp
  have hS9 := cell_below hS8 b9
  have hlz : (o.map fun c : Nat => (c : Int)).length = n := by rw [List.length_map, HO.out.len, HL.out]
  have hl78 := b8'.size
  have hl89 := b9.size
  have c79 : Below w7.heap.size w7.drew w9 := b8'.trans (b9.mono hl78)
  have ox9 := ox.drew.below c79
  have o4' := o4.below b9
  have q0 := r0.drew.below c79
  have q1 := (r1.drew.below c79)
  have q2 := r2.drew.below c79
  have q3 := r3.drew.below c79
  have hg4 := (o4.blk rfl).1
  have hg5 := (o5.blk rfl).1
  have c9 : Below B w w9 := (c7.drew).trans (c79.mono (by omega))
  rw [hlz] at o4' o5
  rw [← N64_I64] at q1
  have hXab : ∀ a, ad = some a → 0 < n → a.block < B := fun a ha h0 => by
    have := World.block_lt_of_cell? w _ ((hb.get8 h0).2)
    rw [ha, sAt_some, add_block, hB] at this; exact this
  refine hK.out _ _ (fun _ => hS9) ?_
  clear hK K
  have hSS9 : (fun w' : World => w'.cell? ⟨X, 1, none⟩ = some (.slice (some ⟨g1, 0, none⟩) n n)) w9 := hS9
  have f4 := (Own.read ox9 (j := 4) rfl)
  have f4a := f4.1
  have f4b := f4.2
  have p1 := ox9.set 4 (.slice (some ⟨g4, 0, none⟩) n n) rfl
  dsimp only [List.set] at p1
  have f5 := (Own.read p1 (j := 5) rfl)
  have f5a := f5.1
  have f5b := f5.2
  have p2 := p1.set 5 (.slice (some ⟨g5, 0, none⟩) n n) rfl
  dsimp only [List.set] at p2
  have p11 := (Own.read p1 (j := 1) rfl).1
  have p21 := (Own.read p2 (j := 1) rfl).1
  have hsix := six_cells p2
  refine AnyT.take (i := 12) (v := ?_) (by decide) (by kernel_rfl) rfl (by kernel_rfl) (by kernel_rfl) (by kernel_rfl) (by kernel_rfl) (fun _ _ _ h => h) (by assumption) (by rfl) (fun _ => rfl) ?_ ?_
  rotate_left
  focus (intro w hSw; (try dsimp only at hSw); go_split_ands; go_simp; (try with_reducible rfl))
  (try simp only [Act.put, List.setIfInBounds_toArray, List.set_cons_zero, List.set_cons_succ, Array.setIfInBounds_toArray])
  refine AnyT.take (i := 13) (v := ?_) (by decide) (by kernel_rfl) rfl (by kernel_rfl) (by kernel_rfl) (by kernel_rfl) (by kernel_rfl) (fun _ _ _ h => h) (by assumption) (by rfl) (fun _ => rfl) ?_ ?_
  rotate_left
  focus (intro w hSw; (try dsimp only at hSw); go_split_ands; go_simp; (try with_reducible rfl))
  (try simp only [Act.put, List.setIfInBounds_toArray, List.set_cons_zero, List.set_cons_succ, Array.setIfInBounds_toArray])
  refine AnyT.only (i := 14) (by decide +kernel) rfl (by rfl) (fun K hK => ?_)
  go_simp
  refine hK.out _ _ (fun _ => p11) ?_
  clear hK K
  have hSSp : (fun w' : World => w'.cell? ⟨X, 1, none⟩ = some (.slice (some ⟨g1, 0, none⟩) n n)) (w9.setCell ⟨X, 4, none⟩ (.slice (some ⟨g4, 0, none⟩) n n)) := p11
  refine AnyT.take (i := 15) (v := ?_) (by decide) (by kernel_rfl) rfl (by kernel_rfl) (by kernel_rfl) (by kernel_rfl) (by kernel_rfl) (fun _ _ _ h => h) (by assumption) (by rfl) (fun _ => rfl) ?_ ?_
  rotate_left
  focus (intro w hSw; (try dsimp only at hSw); go_split_ands; go_simp; (try with_reducible rfl))
  (try simp only [Act.put, List.setIfInBounds_toArray, List.set_cons_zero, List.set_cons_succ, Array.setIfInBounds_toArray])
  refine AnyT.take (i := 16) (v := ?_) (by decide) (by kernel_rfl) rfl (by kernel_rfl) (by kernel_rfl) (by kernel_rfl) (by kernel_rfl) (fun _ _ _ h => h) (by assumption) (by rfl) (fun _ => rfl) ?_ ?_
  rotate_left
  focus (intro w hSw; (try dsimp only at hSw); go_split_ands; go_simp; (try with_reducible rfl))
  (try simp only [Act.put, List.setIfInBounds_toArray, List.set_cons_zero, List.set_cons_succ, Array.setIfInBounds_toArray])
  refine AnyT.only (i := 17) (by decide +kernel) rfl (by rfl) (fun K hK => ?_)
  go_simp
  refine hK.out _ _ (fun _ => p21) ?_
  clear hK K
  refine AnyT.done (by decide +kernel) ?_ _
  clear r0 r1 r2 r3 ox hSS hSS8 hS8 e1 f4 f4a f4b f5 f5a f5b p11 p21 hSS9 hS9
  gi_wp2
  go_ret
  have z7 : w7.drew.heap.size = w7.heap.size := rfl
  have cf : Below w.heap.size w ((w9.setCell ⟨X, 4, none⟩ (.slice (some ⟨g4, 0, none⟩) n n)).setCell ⟨X, 5, none⟩ (.slice (some ⟨g5, 0, none⟩) n n)) := by
    rw [hB]; exact (c9.setCell (p := ⟨X, 4, none⟩) hBX _).setCell (p := ⟨X, 5, none⟩) hBX _
  refine ⟨X, rfl, g1, g2, g3, g4, g5, pl, ⟨hsix, ?_, ?_, ?_, ?_, ?_, ?_⟩, HPL.out, by first | exact cf | (rw [hB] at cf; exact cf)⟩
  · exact (q0.setFar _ _ fun a ha h0 => by have := hXab a ha h0; simp; omega).setFar _ _ fun a ha h0 => by have := hXab a ha h0; simp; omega
  · exact (q1.setOther _ _ fun a ha => by cases ha; simp; omega).setOther _ _ fun a ha => by cases ha; simp; omega
  · exact (q2.setOther _ _ fun a ha => by cases ha; simp; omega).setOther _ _ fun a ha => by cases ha; simp; omega
  · exact (q3.setOther _ _ fun a ha => by cases ha; simp; omega).setOther _ _ fun a ha => by cases ha; simp; omega
  · exact (o4'.rd.setOther _ _ fun a ha => by cases ha; simp; omega).setOther _ _ fun a ha => by cases ha; simp; omega
  · exact (o5.rd.setOther _ _ fun a ha => by cases ha; simp; omega).setOther _ _ fun a ha => by cases ha; simp; omega
end Go.Proofs.Ytnlemaaglbbdnaa
