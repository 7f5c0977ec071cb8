/- rle.pieces as a range; rle.Pack. -/
import Derived.Test.YtjlhhbbciaeggaaRleB
import Derived.Test.YtjlhhbbciaeggaaMore
namespace Go.Proofs.Ytjlhhbbciaeggaa
set_option linter.unusedSimpArgs false
set_option linter.unusedVariables false
open Go.RowKit Go.Shelf
attribute [local go_sem] Oper.semAt_some

theorem keeps_below {W W' : World} (h : Below W.heap.size W W') : KeepsOthers W W' :=
  KeepsOthers.of_grownBy (grown_below h none) (fun j o e => by cases e)
theorem keepB_below {mine : Nat → Prop} {W W' : World} (h : Below W.heap.size W W') (hm : ∀ r, mine r → r < W.heap.size) : KeepB mine W W' := fun r hr => h.block r (hm r hr)

/-- an append whose run is known, in a round -/
theorem wpListIn_appR {F : Fence} {m : Nat} {P : Program} {w : World} {ops : Array Oper} {rest : List Oper} {o : Oper} {a : Act} {Q : Exit → Act → World → Prop} (hF : ∀ f, F.fn f) {t ty : TypeId} {v vx v' : Value} {w' : World}
    (hr : (Builtin.append_ #[t, t] ty #[v, vx]).run P w = .ok v' w') {s x : Operand} (ho : o.op = .call { callee := .builtin .append, args := #[s, x], argTypes := #[t, t] }) (hty : o.type = ty) (hgd : Region.wanted o (yielded ops a.tmps) = true)
    (hs : a.eval s = v) (hx : a.eval x = vx) (h : wpListIn F m P ops Q rest (a.put o.dst v') w') : wpListIn F m P ops Q (o :: rest) a w :=
  wpListIn_run hF hgd (fun c hc => by rw [ho] at hc; cases hc) (exec_append ho hs hx (by rw [hty]; exact hr)) h

/-- 'append' to a row that is full -/
theorem run_app_full {P : Program} {w : World} {t e : Nat} {z : Value} {sz bytes : Nat} (T : ElTy P t e z sz bytes) (ty : TypeId) {a x : Addr} {n m c : Nat} {xs ys : List Value}
    (hown : Rd w sz (some a) n n xs) (hsrc : Rd w sz (some x) m c ys) (hm : 0 < m) (h63 : n + m ≤ maxLen) (hby : (n + m) * bytes ≤ 140737488355328) :
    ∃ ad' cap' w', (Builtin.append_ #[t, t] ty #[.slice (some a) n n, .slice (some x) m c]).run P w = .ok (.slice ad' (n + m) cap') w' ∧ Own w' e sz w.heap.size ad' (n + m) cap' (xs ++ ys) ∧ Below w.heap.size w w' ∧ Hid (w'.heap.size = w.heap.size + 1) := by
  obtain ⟨i, hi, hz, hsz, hbt⟩ := T.inf
  subst hsz
  subst hbt
  have hsmall : n + m ≤ 9223372036854775807 := by simp only [maxLen] at h63; omega
  have hr := run_append_grow (P := P) w t ty e i z T.und hi hz a n n xs hown.len (hown.cell a rfl) x m c ys hsrc.len (hsrc.cell x rfl) (by omega) (by omega) (growslice_fits (by omega) hby)
  refine ⟨_, _, _, hr, ⟨⟨by rw [List.length_append, hown.len, hsrc.len, Nat.add_mul], .inr ⟨w.heap.size, _, _, rfl, Nat.le_refl _, heap_alloc_new w.drew _, grownCap_ge w (n + m) n e, grownCap_le_maxLen w (n + m) n e h63, ?_, ?_⟩⟩, fun u hu => ?_⟩, ((Below.refl _ w).drew).alloc (by simp) _, by show _ = _; simp⟩
  · have := grownCap_ge w (n + m) n e
    simp only [Array.size_append, List.size_toArray, size_zeroCells, T.zs, hown.len, hsrc.len, ← Nat.add_mul]
    congr 1
    omega
  · have hlen : (xs ++ ys).length = (n + m) * i.size := by rw [List.length_append, hown.len, hsrc.len, Nat.add_mul]
    simp only [Array.toList_append, List.append_assoc]
    rw [← List.append_assoc, ← hlen]
    exact List.take_left
  · rcases List.mem_append.1 hu with h | h
    · exact hown.one u h
    · exact hsrc.one u h

theorem pieces_any (w : World) (ad : Option Addr) (n cap : Nat) :
    Calls Try.prog 14 #[.slice ad n cap] w fun e w' => e = .returned (.func (.func 21) #[] #[.pointer (some ⟨w.heap.size, 0, none⟩)]) ∧ w.alloc (.cells #[.slice ad n cap] 22) = w' := by
  go_enter Try.func14, Try.ntmps14
  go_wp2
  go_ret
  exact ⟨rfl, rfl⟩

theorem pieces_seq (m Bx : Nat) (hm : 1 ≤ m) (ad : Option Addr) (n cap : Nat) (b : List UInt8) (hn : n ≤ 100000) (hl : b.length = n) (hne : 0 < n → ∀ a, ad = some a → a.block ≠ Bx) (w : World)
    (hB : Boxed w Bx 22 (.slice ad n cap)) (hb : Rd w 1 ad n cap (B8 b)) :
    SeqN Fence.wide m Try.prog 21 #[.pointer (some ⟨Bx, 0, none⟩)] (pcE ad b) (fun r => r = Bx ∨ (0 < n ∧ ∃ a, ad = some a ∧ r = a.block)) (fun r => r = Bx) (pcs b).length w :=
  fun l J Jx W hW _ hJ _ hY h0 => pieces1_in m l Bx hm ad n cap b hn hl hne J Jx hJ hY W ((hW.block _ hB.lt).trans hB) (hb.below hW) h0

def PackPost (w : World) (b : List UInt8) (room : Int) (e : Ending) (w' : World) : Prop :=
  Below w.heap.size w w' ∧ ((room < 5 ∧ e = .returned (.tuple #[.slice none 0 0, .int .i64 0, .int .i64 5])) ∨
    (5 ≤ room ∧ ∃ k a c, Stop b room.toNat k ∧ e = .returned (.tuple #[.slice a (pkO b k).length c, .int .i64 (offP b k : Int), .int .i64 0]) ∧ Own w' 5 1 w.heap.size a (pkO b k).length c (B8 (pkO b k))))

set_option maxRecDepth 100000 in
set_option maxHeartbeats 4000000 in
theorem pack_law (w : World) (ad : Option Addr) (n cap : Nat) (b : List UInt8) (hb : Rd w 1 ad n cap (B8 b)) (hn : n ≤ 100000) (room : Int) (hr1 : room ≤ 9223372036854775807) :
    Calls Try.prog 8 #[.slice ad n cap, .int .i64 room] w (PackPost w b room) := by
  have hl := hb.len8
  by_cases hlo : room < 5
  · have hb1 : Below w.heap.size w (w.alloc (.cells #[.int .i64 room] 3)) := (Below.refl _ w).alloc (Nat.le_refl _) _
    have HB1 := Lib.hid hb1; clear hb1
    go_enter Try.func8, Try.ntmps8
    go_wp2
    refine bodyPost_ret (results_tmp3 rfl _ _ _) rfl ?_
    exact ⟨HB1.out, .inl ⟨hlo, rfl⟩⟩
  obtain ⟨rm, rfl⟩ : ∃ rm : Nat, room = (rm : Int) := ⟨room.toNat, by omega⟩
  have hrm : 5 ≤ rm := by omega
  refine (callsIn_wide (n := 9)).1 ?_
  refine callsIn_of_wp_marks Try.func8 rfl trivial ?_ rfl
  simp only [Try.ntmps8, List.size_toArray, List.length_cons, List.length_nil, Nat.reduceAdd, Nat.reduceSub, Array.replicate_succ, Array.replicate_zero, List.push_toArray, List.append_toArray, List.nil_append, List.cons_append]
  have hz : ∀ w : World, (zeroValue 22).run Try.prog w = .ok (.slice none 0 0) w := fun w => by kernel_rfl
  have hz2 : ∀ w : World, (zeroValue 3).run Try.prog w = .ok (.int .i64 0) w := fun w => by kernel_rfl
  gi_wp2_with (refine ⟨trivial, ?_⟩; gi_at_call 14; refine (callsIn_wide.2 (pieces_any _ _ _ _)).mono ?_; rintro e w4 ⟨rfl, rfl⟩)
  obtain ⟨B, hB⟩ : ∃ B, w.heap.size = B := ⟨_, rfl⟩
  have d0 := (((Boxed.new w 3 (.int .i64 (rm : Int))).alloc (.cells #[.slice none 0 0] 22)).alloc (.cells #[.int .i64 0] 3)).alloc (.cells #[.slice ad n cap] 22)
  have d1 := ((Boxed.new (w.alloc (.cells #[.int .i64 (rm : Int)] 3)) 22 (.slice none 0 0)).alloc (.cells #[.int .i64 0] 3)).alloc (.cells #[.slice ad n cap] 22)
  have d2 := (Boxed.new ((w.alloc (.cells #[.int .i64 (rm : Int)] 3)).alloc (.cells #[.slice none 0 0] 22)) 3 (.int .i64 0)).alloc (.cells #[.slice ad n cap] 22)
  have d3 := Boxed.new (((w.alloc (.cells #[.int .i64 (rm : Int)] 3)).alloc (.cells #[.slice none 0 0] 22)).alloc (.cells #[.int .i64 0] 3)) 22 (.slice ad n cap)
  have c5 : Below B w ((((w.alloc (.cells #[.int .i64 (rm : Int)] 3)).alloc (.cells #[.slice none 0 0] 22)).alloc (.cells #[.int .i64 0] 3)).alloc (.cells #[.slice ad n cap] 22)) := by
    rw [← hB]
    exact ((((Below.refl _ w).alloc (Nat.le_refl _) _).alloc (by simp) _).alloc (by simp; omega) _).alloc (by simp; omega) _
  have s5 : ((((w.alloc (.cells #[.int .i64 (rm : Int)] 3)).alloc (.cells #[.slice none 0 0] 22)).alloc (.cells #[.int .i64 0] 3)).alloc (.cells #[.slice ad n cap] 22)).heap.size = B + 4 := by simp [hB]
  simp only [World.size_alloc, hB] at d0 d1 d2 d3 ⊢
  have HB := Lib.hid hB; clear hB
  generalize ((((w.alloc (.cells #[.int .i64 (rm : Int)] 3)).alloc (.cells #[.slice none 0 0] 22)).alloc (.cells #[.int .i64 0] 3)).alloc (.cells #[.slice ad n cap] 22)) = wz at *
  simp only [Nat.add_assoc, Nat.reduceAdd] at d0 d1 d2 d3 ⊢
  have hbz := hb.below (show Below w.heap.size w wz by rw [HB.out]; exact c5)
  have hblk : 0 < n → ∀ a, ad = some a → a.block < B := fun h0 a ha => by
    have h1 := (hb.get8 h0).2
    have h2 := World.block_lt_of_cell? w _ h1
    rw [ha, sAt_some, add_block, HB.out] at h2; exact h2
  have hseq := pieces_seq 8 (B + 3) (by omega) ad n cap b hn hl (fun h0 a ha => by have := hblk h0 a ha; omega) wz d3 hbz
  have S5 := Lib.hid s5
  have HL := Lib.hid hl; clear hl
  have hmin2 : ∀ r, (r = B + 3 ∨ (0 < n ∧ ∃ a, ad = some a ∧ r = a.block)) → r < B + 4 := by
    rintro r (h | ⟨h0, a, ha, h⟩)
    · omega
    · have := hblk h0 a ha; omega
  have hmin3 : ∀ r, (r = B + 3 ∨ (0 < n ∧ ∃ a, ad = some a ∧ r = a.block)) → ∀ q, q = B + 1 ∨ q = B + 2 → r ≠ q := by
    rintro r (h | ⟨h0, a, ha, h⟩) q hq
    · omega
    · have := hblk h0 a ha; omega
  refine wpIn_rangeN rfl (by omega) (gf := 21) (lb := #[.pointer (some ⟨B + 3, 0, none⟩)]) rfl trivial (enters_of Try.func21 (by kernel_rfl) rfl) hseq
    (fun r hr => by have := hmin2 r hr; rw [s5]; omega) (fun r hr => by rw [s5]; omega) (Below.refl _ _) (fun _ => rfl)
    (fun k W => Below B w W ∧ Boxed W B 3 (.int .i64 (rm : Int)) ∧ ∃ a c, Boxed W (B + 1) 22 (.slice a (pkO b k).length c) ∧ Own W 5 1 (B + 4) a (pkO b k).length c (B8 (pkO b k)) ∧ Boxed W (B + 2) 3 (.int .i64 (offP b k : Int)) ∧ B + 4 ≤ W.heap.size ∧ (pkO b k).length ≤ rm)
    (fun cd _ W => cd = .exit 0 ∧ ∃ j, Stop b rm j ∧ Below B w W ∧ Boxed W B 3 (.int .i64 (rm : Int)) ∧ ∃ a c, Boxed W (B + 1) 22 (.slice a (pkO b j).length c) ∧ Own W 5 1 (B + 4) a (pkO b j).length c (B8 (pkO b j)) ∧ Boxed W (B + 2) 3 (.int .i64 (offP b j : Int)) ∧ B + 4 ≤ W.heap.size)
    ?hI ?hIx ?h0
    (fun k => { tmps := #[.slice ad n cap, .int .i64 rm, undef, .pointer (some ⟨B, 0, none⟩), .slice none 0 0, .int .i64 0, .int .i64 0, .pointer (some ⟨B + 1, 0, none⟩), .pointer (some ⟨B + 2, 0, none⟩), .slice (some (sAt ad (offP b k))) (runN (b.drop (offP b k))) (runN (b.drop (offP b k))), undef, .int .i64 rm, .bool false, .slice ad n cap, .func (.func 21) #[] #[.pointer (some ⟨B + 3, 0, none⟩)], .slice (some (sAt ad (offP b k))) (runN (b.drop (offP b k))) (runN (b.drop (offP b k))),
      undef, undef, undef, undef, undef, undef, undef, undef, undef, undef, undef, undef, undef, undef, undef, undef, undef, undef, undef, undef, undef, undef, undef, undef, undef, undef, undef, undef, undef], defers := [] })
    ?assign ?body ?done ?stop
  case hI =>
    rintro k W W' row ⟨h1, h2, a, c, h3, h4, h5, h6, h7⟩ hgr hr
    exact ⟨Abide.below (B := wz.heap.size) (wr := fun r => r = B + 3) (by rw [HB.out]; exact Nat.le_refl _) (by omega) (fun r hr => by omega) k W W' row h1 hgr hr, Abide.boxed _ (fun _ => Value.int .i64 (rm : Int)) (by omega) k W W' row h2 hgr hr,
      a, c, Abide.boxed _ (fun _ => Value.slice a (pkO b k).length c) (by omega) k W W' row h3 hgr hr, h4.abide hgr hr (fun g hg => by have := (h4.blk hg).1; omega), Abide.boxed _ (fun _ => Value.int .i64 (offP b k : Int)) (by omega) k W W' row h5 hgr hr, Nat.le_trans h6 hgr.size, h7⟩
  case hIx =>
    rintro cd k W W' row ⟨hcd, j, hj, h1, h2, a, c, h3, h4, h5, h6⟩ hgr hr
    exact ⟨hcd, j, hj, Abide.below (B := wz.heap.size) (wr := fun r => r = B + 3) (by rw [HB.out]; exact Nat.le_refl _) (by omega) (fun r hr => by omega) k W W' row h1 hgr hr, Abide.boxed _ (fun _ => Value.int .i64 (rm : Int)) (by omega) k W W' row h2 hgr hr,
      a, c, Abide.boxed _ (fun _ => Value.slice a (pkO b j).length c) (by omega) k W W' row h3 hgr hr, h4.abide hgr hr (fun g hg => by have := (h4.blk hg).1; omega), Abide.boxed _ (fun _ => Value.int .i64 (offP b j : Int)) (by omega) k W W' row h5 hgr hr, Nat.le_trans h6 hgr.size⟩
  case h0 =>
    rw [pkO_zero, offP_zero]
    exact ⟨c5, d0, none, 0, d1, Own.nil _ _ _ _, d2, by omega, Nat.zero_le _⟩
  case assign =>
    intro l k W K hK
    dsimp only [pcE]
    gi_wp2
    exact hK
  case body =>
    rintro l k W ⟨h1, h2, a, c, h3, h4, h5, h6, h7⟩ hk
    have hof := (pcs_get b k hk).1
    have hos := offP_succ b k hk
    have hsuc := pkO_succ b k hk
    have hrp := runN_pos (b := b.drop (offP b k)) (by rw [List.length_drop]; omega)
    have hrl := runN_le (b.drop (offP b k))
    have htk := runN_take (b.drop (offP b k)) (by rw [List.length_drop]; omega)
    have hat : at8 (b.drop (offP b k)) 0 = at8 b (offP b k) := by simp only [at8, List.getD_eq_getElem?_getD, List.getElem?_drop, Nat.add_zero]
    have hpl := pkO_le b k
    have hmin : ∀ r, (r = B + 3 ∨ (0 < n ∧ ∃ a, ad = some a ∧ r = a.block)) → r < W.heap.size := fun r hr => by have := hmin2 r hr; omega
    rw [hat] at htk
    clear hat
    have rp : Rd W 1 (some (sAt ad (offP b k))) (runN (b.drop (offP b k))) (runN (b.drop (offP b k))) (B8 (List.replicate (runN (b.drop (offP b k))) (at8 b (offP b k)))) := by
      have hw := hb.below (show Below w.heap.size w W by rw [HB.out]; exact h1)
      have h8 := hw.from8 (offP b k) (by rw [← HL.out]; exact Nat.le_of_lt hof)
      obtain ⟨a0, rfl⟩ := Option.ne_none_iff_exists'.1 (hw.ne (by rw [← HL.out]; omega))
      rw [cutA, if_neg (by have := hw.ncap; have := HL.out; omega)] at h8
      have h9 := h8.to8 (runN (b.drop (offP b k))) (by have := hrl.2; rw [List.length_drop, HL.out] at this; exact this)
      rw [htk] at h9
      exact ⟨h9.len, Nat.le_refl _, Nat.le_trans h9.ncap h9.capM, fun e => by simp at e, h9.one, h9.cell⟩
    rw [HL.out] at hof hpl
    have hrn := hrl.2
    rw [List.length_drop, HL.out] at hrn
    have hr255 := hrl.1
    clear htk hrl
    obtain ⟨off, hoff⟩ : ∃ off, offP b k = off := ⟨_, rfl⟩
    obtain ⟨r, hr⟩ : ∃ r, runN (b.drop (offP b k)) = r := ⟨_, rfl⟩
    rw [hr] at hos hsuc hrp hrn hr255 rp ⊢
    rw [hoff] at hos hsuc rp h5 hof hrn ⊢
    obtain ⟨cc, hcc⟩ : ∃ cc, at8 b off = cc := ⟨_, rfl⟩
    obtain ⟨x, hx⟩ : ∃ x, sAt ad off = x := ⟨_, rfl⟩
    obtain ⟨m, hm⟩ : ∃ m, (pkO b k).length = m := ⟨_, rfl⟩
    rw [hcc] at hsuc rp
    rw [hx] at rp ⊢
    rw [hm] at h3 h4 h7 hpl
    clear hr hx hcc
    have HOFF := Lib.hid hoff; clear hoff
    have HM := Lib.hid hm; clear hm
    have HSUC := Lib.hid hsuc; clear hsuc
    have hcl := clone_law W x r r _ rp (by omega)
    have HCL := Lib.hid hcl; clear hcl rp
    have hpk := pkd_len (cc, r)
    obtain ⟨of2, hof2⟩ : ∃ of2, off + r = of2 := ⟨_, rfl⟩
    have eo : (off : Int) + (r : Int) = (of2 : Int) := by omega
    have wo : IntKind.i64.wrap (of2 : Int) = (of2 : Int) := IntWalk.i64_in _ (by omega)
    have HOS : Hid (offP b (k + 1) = of2) := Lib.hid (by rw [hos, hof2])
    clear hof2 hos
    have HMIN := Lib.hid hmin; clear hmin
    have HMIN2 := Lib.hid hmin2; clear hmin2
    have HMIN3 := Lib.hid hmin3; clear hmin3
    clear hb hbz hblk hseq d0 d1 d2 d3 c5 S5 hz hz2
    by_cases h4r : 4 ≤ r
    · have hgeq : (4 : Int) ≤ (r : Int) := by omega
      have hpk5 : pkd (cc, r) = List.replicate 4 cc ++ [UInt8.ofNat (r - 4)] := by rw [pkd, if_pos h4r, Nat.min_eq_right h4r]
      rw [if_pos h4r] at hpk
      have HPK := Lib.hid hpk5; clear hpk5
      have HPL := Lib.hid hpk; clear hpk
      obtain ⟨q, hq⟩ : ∃ q, r - 4 = q := ⟨_, rfl⟩
      have eq1 : (r : Int) - 4 = (q : Int) := by omega
      have wq1 : IntKind.i64.wrap (q : Int) = (q : Int) := IntWalk.i64_in _ (by omega)
      have wq2 : IntKind.u8.wrap (q : Int) = (q : Int) := by simp [IntKind.wrap, IntKind.bits, IntKind.signed]; omega
      rw [hq] at HPK
      have HQ := Lib.hid hq; clear hq
      by_cases hfit : rm < m + 5
      · have t1 : (rm : Int) < (m : Int) + 5 := by omega
        gi_wp2_with fail
        refine ⟨trivial, ?_⟩
        gi_at_call 15
        refine (CallsIn.inRound l (callsIn_wide.2 HCL.out)).mono ?_
        rintro e W1 ⟨ac, k1, rfl, o1, b1, s1⟩
        have hk1 := o1.rd.ncap
        have hk14 : 4 ≤ k1 := by omega
        obtain ⟨a9, rfl⟩ := Option.ne_none_iff_exists'.1 (o1.rd.ne (by omega))
        have r4 := o1.rd.to8 4 h4r
        rw [List.take_replicate, Nat.min_eq_left h4r] at r4
        have r44 : Rd W1 1 (some a9) 4 4 (B8 (List.replicate 4 cc)) := ⟨r4.len, Nat.le_refl _, by decide, fun e => by (cases e), r4.one, r4.cell⟩
        have rq := Rd.row W1 5 1 1 [.int .u8 (q : Int)] rfl (by decide) (by simp [Value.oneCell'])
        obtain ⟨p1, p2, W2, hrun, o2, b2, s2⟩ := run_app_full (P := Try.prog) elB 22 (r44.alloc (.cells #[.int .u8 (q : Int)] 5)) rq (by decide) (by decide) (by decide)
        have bel2 : Below W.heap.size W W2 := (b1.alloc (by omega) _).trans (b2.mono (by simp; omega))
        have o2' : Own W2 5 1 W.heap.size p1 5 p2 (B8 (pkd (cc, r))) := by
          rw [HPK.out, ← B8_app]
          have h := o2.lower (lo' := W.heap.size) (by simp; omega)
          rwa [show B8 [UInt8.ofNat q] = [.int .u8 (q : Int)] by simp [B8, UInt8.toNat_ofNat']; omega]
        clear o2 r4 r44 rq b1 s1 s2 b2 o1
        have y0 : Boxed W2 B 3 (.int .i64 (rm : Int)) := (bel2.block _ (by omega)).trans h2
        have y1 : Boxed W2 (B + 1) 22 (.slice a m c) := (bel2.block _ (by omega)).trans h3
        have y2 : Boxed W2 (B + 2) 3 (.int .i64 (off : Int)) := (bel2.block _ (by omega)).trans h5
        have yo := h4.below bel2
        have cy0 := y0.cell
        have cy1 := y1.cell
        have cy2 := y2.cell
        have fy1 := y1.frozen
        have bel := h1.trans (bel2.mono (show B ≤ W.heap.size by omega))
        have kf : KeepsFrom wz.heap.size W W2 := (keeps_below bel2).from _
        have km : KeepB (fun r => r = B + 3 ∨ (0 < n ∧ ∃ a, ad = some a ∧ r = a.block)) W W2 := keepB_below bel2 HMIN.out
        have hszy : B + 4 ≤ W2.heap.size := Nat.le_trans h6 bel2.size
        gi_wp2_with (refine wpListIn_appR (fun _ => trivial) hrun rfl rfl rfl rfl rfl ?_)
        have hstop : Stop b rm k := ⟨Nat.le_of_lt hk, by rw [HM.out]; exact h7, fun _ => by rw [HSUC.out, List.length_append, HM.out, HPL.out]; omega⟩
        refine ⟨kf, rfl, k, hstop, bel, y0, a, c, by rw [HM.out]; exact y1, by rw [HM.out]; exact yo, by rw [HOFF.out]; exact y2, hszy⟩
      · have t1 : ¬ (rm : Int) < (m : Int) + 5 := by omega
        gi_wp2_with fail
        refine ⟨trivial, ?_⟩
        gi_at_call 15
        refine (CallsIn.inRound l (callsIn_wide.2 HCL.out)).mono ?_
        rintro e W1 ⟨ac, k1, rfl, o1, b1, s1⟩
        have hk1 := o1.rd.ncap
        have hk14 : 4 ≤ k1 := by omega
        obtain ⟨a9, rfl⟩ := Option.ne_none_iff_exists'.1 (o1.rd.ne (by omega))
        have r4 := o1.rd.to8 4 h4r
        rw [List.take_replicate, Nat.min_eq_left h4r] at r4
        have r44 : Rd W1 1 (some a9) 4 4 (B8 (List.replicate 4 cc)) := ⟨r4.len, Nat.le_refl _, by decide, fun e => by (cases e), r4.one, r4.cell⟩
        have rq := Rd.row W1 5 1 1 [.int .u8 (q : Int)] rfl (by decide) (by simp [Value.oneCell'])
        obtain ⟨p1, p2, W2, hrun, o2, b2, s2⟩ := run_app_full (P := Try.prog) elB 22 (r44.alloc (.cells #[.int .u8 (q : Int)] 5)) rq (by decide) (by decide) (by decide)
        have bel2 : Below W.heap.size W W2 := (b1.alloc (by omega) _).trans (b2.mono (by simp; omega))
        have o2' : Own W2 5 1 W.heap.size p1 5 p2 (B8 (pkd (cc, r))) := by
          rw [HPK.out, ← B8_app]
          have h := o2.lower (lo' := W.heap.size) (by simp; omega)
          rwa [show B8 [UInt8.ofNat q] = [.int .u8 (q : Int)] by simp [B8, UInt8.toNat_ofNat']; omega]
        clear o2 r4 r44 rq b1 s1 s2 b2 o1
        have y0 : Boxed W2 B 3 (.int .i64 (rm : Int)) := (bel2.block _ (by omega)).trans h2
        have y1 : Boxed W2 (B + 1) 22 (.slice a m c) := (bel2.block _ (by omega)).trans h3
        have y2 : Boxed W2 (B + 2) 3 (.int .i64 (off : Int)) := (bel2.block _ (by omega)).trans h5
        have yo := h4.below bel2
        have cy0 := y0.cell
        have cy1 := y1.cell
        have cy2 := y2.cell
        have fy1 := y1.frozen
        have bel := h1.trans (bel2.mono (show B ≤ W.heap.size by omega))
        have kf : KeepsFrom wz.heap.size W W2 := (keeps_below bel2).from _
        have km : KeepB (fun r => r = B + 3 ∨ (0 < n ∧ ∃ a, ad = some a ∧ r = a.block)) W W2 := keepB_below bel2 HMIN.out
        have hszy : B + 4 ≤ W2.heap.size := Nat.le_trans h6 bel2.size
        obtain ⟨a3, c3, W3, hrun3, o3, g3, n3⟩ := run_app (P := Try.prog) elB 22 yo o2'.rd (by unfold maxLen; omega) (by omega) hszy
        have hgx : ∀ j, j < B + 4 → W3.heap[j]? = W2.heap[j]? := fun j hj => g3.block j (by omega) (fun e => by
          obtain ⟨_, hc⟩ := yo.cases
          rcases hc with ⟨h, _⟩ | ⟨x, cur, h, hb, _⟩
          · rw [h] at e; cases e
          · rw [h] at e; simp [bOf] at e; omega)
        have b3 : Below B w W3 := Own.grown bel yo g3 (by omega) (by omega)
        have x0 : Boxed W3 B 3 (.int .i64 (rm : Int)) := (hgx B (by omega)).trans y0
        have x1 : Boxed W3 (B + 1) 22 (.slice a m c) := (hgx (B + 1) (by omega)).trans y1
        have x2 : Boxed W3 (B + 2) 3 (.int .i64 (off : Int)) := (hgx (B + 2) (by omega)).trans y2
        have hs3 : B + 4 ≤ W3.heap.size := Nat.le_trans hszy g3.size
        have kf3 : KeepsFrom wz.heap.size W W3 := kf.trans ((KeepsOthers.of_grownBy g3 (fun j o hj ho => by
          obtain ⟨_, hc⟩ := yo.cases
          rcases hc with ⟨h, _⟩ | ⟨x, cur, h, hb, hcur, _⟩
          · rw [h] at hj; cases hj
          · rw [h] at hj; cases hj; rw [hcur] at ho; cases ho; rfl)).from _)
        have km3 : KeepB (fun r => r = B + 3 ∨ (0 < n ∧ ∃ a, ad = some a ∧ r = a.block)) W W3 := km.trans fun r hr => hgx r (HMIN2.out r hr)
        have x2' : Boxed (W3.setCell ⟨B + 1, 0, .none⟩ (.slice a3 (m + 5) c3)) (B + 2) 3 (.int .i64 (off : Int)) := x2.other (by omega) _
        have x1' : Boxed (W3.setCell ⟨B + 1, 0, .none⟩ (.slice a3 (m + 5) c3)) (B + 1) 22 (.slice a3 (m + 5) c3) := x1.set _
        have x0' : Boxed (W3.setCell ⟨B + 1, 0, .none⟩ (.slice a3 (m + 5) c3)) B 3 (.int .i64 (rm : Int)) := x0.other (by omega) _
        have cx1 := x1.cell
        have fx1 := x1.frozen
        have cx2 := x2'.cell
        have fx2 := x2'.frozen
        have X0 := Lib.hid x0'; clear x0'
        have X1 := Lib.hid x1'; clear x1'
        have X2 := Lib.hid x2'; clear x2'
        have O3 := Lib.hid o3; clear o3
        have KF := Lib.hid kf3; clear kf3
        have KM := Lib.hid km3; clear km3
        have B3 := Lib.hid b3; clear b3
        have S3 := Lib.hid hs3; clear hs3
        clear g3 n3 hgx kf km bel x0 x1 x2 h1 h2 h3 h4 h5
        gi_wp2_with (first
          | (refine wpListIn_appR (fun _ => trivial) hrun rfl rfl rfl rfl rfl ?_; clear hrun)
          | (refine wpListIn_appR (fun _ => trivial) hrun3 rfl rfl rfl rfl rfl ?_))
        refine ⟨(KF.out.trans ((KeepsOthers.setCell _ _ _).from _)).trans ((KeepsOthers.setCell _ _ _).from _), (KM.out.trans fun r hr => Below.heap_setCell _ _ _ r (HMIN3.out r hr _ (.inl rfl))).trans fun r hr => Below.heap_setCell _ _ _ r (HMIN3.out r hr _ (.inr rfl)),
          (B3.out.setCell (by simp) _).setCell (by simp) _, X0.out.other (by omega) _, a3, c3, ?_, ?_, ?_, by simpa using S3.out, ?_⟩
        · rw [HSUC.out, List.length_append, HM.out, HPL.out]; exact X1.out.other (by omega) _
        · rw [HSUC.out, List.length_append, HM.out, HPL.out, ← B8_app]
          exact (O3.out.setOther _ _ (fun g hg => by have := (O3.out.blk hg).1; simp; omega)).setOther _ _ (fun g hg => by have := (O3.out.blk hg).1; simp; omega)
        · rw [HOS.out]; exact X2.out.set _
        · rw [HSUC.out, List.length_append, HM.out, HPL.out]; omega
    · have hgeq : ¬ (4 : Int) ≤ (r : Int) := by omega
      have hpk5 : pkd (cc, r) = List.replicate r cc := by rw [pkd, if_neg h4r, Nat.min_eq_left (by omega), List.append_nil]
      rw [if_neg h4r] at hpk
      have HPK := Lib.hid hpk5; clear hpk5
      have HPL := Lib.hid hpk; clear hpk
      obtain ⟨mr, hmr⟩ : ∃ mr, m + r = mr := ⟨_, rfl⟩
      have em : (m : Int) + (r : Int) = (mr : Int) := by omega
      have wm : IntKind.i64.wrap (mr : Int) = (mr : Int) := IntWalk.i64_in _ (by omega)
      gi_wp2_with fail
      refine ⟨trivial, ?_⟩
      gi_at_call 15
      refine (CallsIn.inRound l (callsIn_wide.2 HCL.out)).mono ?_
      rintro e W2 ⟨p1, p2, rfl, o1, bel2, s1⟩
      have o2' : Own W2 5 1 W.heap.size p1 r p2 (B8 (pkd (cc, r))) := by rw [HPK.out]; exact o1
      clear o1 s1
      have y0 : Boxed W2 B 3 (.int .i64 (rm : Int)) := (bel2.block _ (by omega)).trans h2
      have y1 : Boxed W2 (B + 1) 22 (.slice a m c) := (bel2.block _ (by omega)).trans h3
      have y2 : Boxed W2 (B + 2) 3 (.int .i64 (off : Int)) := (bel2.block _ (by omega)).trans h5
      have yo := h4.below bel2
      have cy0 := y0.cell
      have cy1 := y1.cell
      have cy2 := y2.cell
      have fy1 := y1.frozen
      have bel := h1.trans (bel2.mono (show B ≤ W.heap.size by omega))
      have kf : KeepsFrom wz.heap.size W W2 := (keeps_below bel2).from _
      have km : KeepB (fun r => r = B + 3 ∨ (0 < n ∧ ∃ a, ad = some a ∧ r = a.block)) W W2 := keepB_below bel2 HMIN.out
      have hszy : B + 4 ≤ W2.heap.size := Nat.le_trans h6 bel2.size
      by_cases hfit : rm < mr
      · have t1 : (rm : Int) < (mr : Int) := by omega
        gi_wp2_with fail
        have hstop : Stop b rm k := ⟨Nat.le_of_lt hk, by rw [HM.out]; exact h7, fun _ => by rw [HSUC.out, List.length_append, HM.out, HPL.out]; omega⟩
        refine ⟨kf, rfl, k, hstop, bel, y0, a, c, by rw [HM.out]; exact y1, by rw [HM.out]; exact yo, by rw [HOFF.out]; exact y2, hszy⟩
      · have t1 : ¬ (rm : Int) < (mr : Int) := by omega
        obtain ⟨a3, c3, W3, hrun3, o3, g3, n3⟩ := run_app (P := Try.prog) elB 22 yo o2'.rd (by unfold maxLen; omega) (by omega) hszy
        have hgx : ∀ j, j < B + 4 → W3.heap[j]? = W2.heap[j]? := fun j hj => g3.block j (by omega) (fun e => by
          obtain ⟨_, hc⟩ := yo.cases
          rcases hc with ⟨h, _⟩ | ⟨x, cur, h, hb, _⟩
          · rw [h] at e; cases e
          · rw [h] at e; simp [bOf] at e; omega)
        have b3 : Below B w W3 := Own.grown bel yo g3 (by omega) (by omega)
        have x0 : Boxed W3 B 3 (.int .i64 (rm : Int)) := (hgx B (by omega)).trans y0
        have x1 : Boxed W3 (B + 1) 22 (.slice a m c) := (hgx (B + 1) (by omega)).trans y1
        have x2 : Boxed W3 (B + 2) 3 (.int .i64 (off : Int)) := (hgx (B + 2) (by omega)).trans y2
        have hs3 : B + 4 ≤ W3.heap.size := Nat.le_trans hszy g3.size
        have kf3 : KeepsFrom wz.heap.size W W3 := kf.trans ((KeepsOthers.of_grownBy g3 (fun j o hj ho => by
          obtain ⟨_, hc⟩ := yo.cases
          rcases hc with ⟨h, _⟩ | ⟨x, cur, h, hb, hcur, _⟩
          · rw [h] at hj; cases hj
          · rw [h] at hj; cases hj; rw [hcur] at ho; cases ho; rfl)).from _)
        have km3 : KeepB (fun r => r = B + 3 ∨ (0 < n ∧ ∃ a, ad = some a ∧ r = a.block)) W W3 := km.trans fun r hr => hgx r (HMIN2.out r hr)
        have x2' : Boxed (W3.setCell ⟨B + 1, 0, .none⟩ (.slice a3 (m + r) c3)) (B + 2) 3 (.int .i64 (off : Int)) := x2.other (by omega) _
        have x1' : Boxed (W3.setCell ⟨B + 1, 0, .none⟩ (.slice a3 (m + r) c3)) (B + 1) 22 (.slice a3 (m + r) c3) := x1.set _
        have x0' : Boxed (W3.setCell ⟨B + 1, 0, .none⟩ (.slice a3 (m + r) c3)) B 3 (.int .i64 (rm : Int)) := x0.other (by omega) _
        have cx1 := x1.cell
        have fx1 := x1.frozen
        have cx2 := x2'.cell
        have fx2 := x2'.frozen
        have X0 := Lib.hid x0'; clear x0'
        have X1 := Lib.hid x1'; clear x1'
        have X2 := Lib.hid x2'; clear x2'
        have O3 := Lib.hid o3; clear o3
        have KF := Lib.hid kf3; clear kf3
        have KM := Lib.hid km3; clear km3
        have B3 := Lib.hid b3; clear b3
        have S3 := Lib.hid hs3; clear hs3
        clear g3 n3 hgx kf km bel x0 x1 x2 h1 h2 h3 h4 h5
        have HMR := Lib.hid hmr; clear hmr
        gi_wp2_with (refine wpListIn_appR (fun _ => trivial) hrun3 rfl rfl rfl rfl rfl ?_)
        have hmr := HMR.out
        refine ⟨(KF.out.trans ((KeepsOthers.setCell _ _ _).from _)).trans ((KeepsOthers.setCell _ _ _).from _), (KM.out.trans fun r hr => Below.heap_setCell _ _ _ r (HMIN3.out r hr _ (.inl rfl))).trans fun r hr => Below.heap_setCell _ _ _ r (HMIN3.out r hr _ (.inr rfl)),
          (B3.out.setCell (by simp) _).setCell (by simp) _, X0.out.other (by omega) _, a3, c3, ?_, ?_, ?_, by simpa using S3.out, ?_⟩
        · rw [HSUC.out, List.length_append, HM.out, HPL.out]; exact X1.out.other (by omega) _
        · rw [HSUC.out, List.length_append, HM.out, HPL.out, ← B8_app]
          exact (O3.out.setOther _ _ (fun g hg => by have := (O3.out.blk hg).1; simp; omega)).setOther _ _ (fun g hg => by have := (O3.out.blk hg).1; simp; omega)
        · rw [HOS.out]; exact X2.out.set _
        · rw [HSUC.out, List.length_append, HM.out, HPL.out]; omega
  case done =>
    rintro D W hD ⟨h1, h2, a, c, h3, h4, h5, h6, h7⟩ hK0
    have hO := h3.cell
    have hO2 := h5.cell
    have st : Stop b rm (pcs b).length := Stop.all h7
    have ST := Lib.hid st; clear st
    clear hb hbz hblk hseq d0 d1 d2 d3 c5
    gi_wp2
    (try simp only [List.append])
    refine wpIn_region_quiet_lit rfl (by kernel_rfl) (by kernel_rfl) ?_
    repeat (gi_big_quiet_step (fail))
    refine wpQuietIn_nil ?_
    intro _ hw'
    obtain ⟨nq, hw''⟩ := hw'
    subst hw''
    have hK : (W.drewN nq).heap[D]? = some (Obj.deferred (some [])) := hK0
    have own := (ownDraws h4 nq).abide (B := wz.heap.size) (wr := fun _ => False) (grownBy_putObj' (W.drewN nq) D (.deferred .none)) (fun r e => by cases e; exact .inr ⟨hD, _, hK, rfl⟩) (fun _ _ h => h)
    have bel := (bDraws h1 nq).trans (belowK_b (n₀ := B) (w := wz) (by omega) (W.drewN nq) D _ (.deferred .none) hD hK rfl rfl)
    have OWN := Lib.hid own; clear own
    have BEL := Lib.hid bel; clear bel
    clear h1 h4
    gi_wp2
    refine ⟨by simp, .inl ⟨_, _, rfl, run_takeDeferred hK, ?_⟩⟩
    refine ⟨_, results_tmp3 rfl _ _ _, by rw [HB.out]; exact BEL.out, .inr ⟨hlo, (pcs b).length, a, c, ?_, rfl, by rw [HB.out]; exact OWN.out.lower (by omega)⟩⟩
    rw [Int.toNat_natCast]
    exact ST.out
  case stop =>
    rintro D cd k W hD _ ⟨rfl, j, hj, h1, h2, a, c, h3, h4, h5, h6⟩ hK0
    have hO := h3.cell
    have hO2 := h5.cell
    have ST := Lib.hid hj; clear hj
    clear hb hbz hblk hseq d0 d1 d2 d3 c5
    gi_wp2
    (try simp only [List.append])
    refine wpIn_region_quiet_lit rfl (by kernel_rfl) (by kernel_rfl) ?_
    repeat (gi_big_quiet_step (fail))
    refine wpQuietIn_nil ?_
    intro _ hw'
    obtain ⟨nq, hw''⟩ := hw'
    subst hw''
    have hK : (W.drewN nq).heap[D]? = some (Obj.deferred (some [])) := hK0
    have own := (ownDraws h4 nq).abide (B := wz.heap.size) (wr := fun _ => False) (grownBy_putObj' (W.drewN nq) D (.deferred .none)) (fun r e => by cases e; exact .inr ⟨hD, _, hK, rfl⟩) (fun _ _ h => h)
    have bel := (bDraws h1 nq).trans (belowK_b (n₀ := B) (w := wz) (by omega) (W.drewN nq) D _ (.deferred .none) hD hK rfl rfl)
    have OWN := Lib.hid own; clear own
    have BEL := Lib.hid bel; clear bel
    clear h1 h4
    gi_wp2
    refine ⟨by simp, .inl ⟨_, _, rfl, run_takeDeferred hK, ?_⟩⟩
    refine ⟨_, results_tmp3 rfl _ _ _, by rw [HB.out]; exact BEL.out, .inr ⟨hlo, j, a, c, ?_, rfl, by rw [HB.out]; exact OWN.out.lower (by omega)⟩⟩
    rw [Int.toNat_natCast]
    exact ST.out
end Go.Proofs.Ytjlhhbbciaeggaa
