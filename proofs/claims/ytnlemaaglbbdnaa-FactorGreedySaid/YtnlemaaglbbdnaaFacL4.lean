/- FactorGreedy. -/
import Derived.Test.YtnlemaaglbbdnaaFacI
import Derived.Test.YtnlemaaglbbdnaaRegD
namespace Go.Proofs.Ytnlemaaglbbdnaa
set_option linter.unusedSimpArgs false
set_option linter.unusedVariables false
open Go.RowKit
attribute [local go_sem] Oper.semAt_some

theorem wpListIn_clone {F : Fence} {k : Nat} {P : Program} {w : World} {ops : Array Oper} {rest : List Oper} {o : Oper} {a : Act} {Q : Exit → Act → World → Prop} (hF : ∀ f, F.fn f) (hgd : Region.wanted o (yielded ops a.tmps) = true) (s x : Operand) (t : TypeId) (ho : o.op = .call { callee := .builtin .append, args := #[s, x], argTypes := #[t, t] })
    {e : Nat} {z : Value} {sz bytes : Nat} (T : ElTy P t e z sz bytes) {sd : Option Addr} {m c : Nat} {ys : List Value}
    (hs : a.eval s = .slice (some ⟨w.heap.size, 0, none⟩) 0 0) (hx : a.eval x = .slice sd m c) (hsrc : Rd w sz sd m c ys)
    (h63 : m ≤ maxLen) (hby : m * bytes ≤ 140737488355328)
    (h : ∀ ad' cap' w', Own w' e sz w.heap.size ad' m cap' ys → Below w.heap.size w w' → w.heap.size < w'.heap.size → wpListIn F k P ops Q rest (a.put o.dst (.slice ad' m cap')) w') :
    wpListIn F k P ops Q (o :: rest) a (w.alloc (.cells #[] e)) := by
  refine wpListIn_app hF hgd s x t ho T hs hx (Own.empty w e sz) (hsrc.alloc _) (by omega) (by rw [Nat.zero_add]; exact hby) (by simp) fun ad' cap' w' h2 h3 _ => ?_
  simp only [Nat.zero_add, List.nil_append] at h2 ⊢
  have hs := h3.size
  simp at hs
  exact h ad' cap' w' h2 (((Below.refl _ w).alloc (Nat.le_refl _) _).grown h3 (by simp) (fun k hk => by simp [bOf] at hk; omega)) (by omega)
set_option maxRecDepth 100000 in
set_option maxHeartbeats 8000000 in
theorem factorGreedy_law (w : World) (ad : Option Addr) (n cap : Nat) (b : List UInt8) (hb : Rd w 1 ad n cap (B8 b)) (f : Int) (hf : -9223372036854775808 ≤ f ∧ f ≤ 9223372036854775807) :
    Calls Try.prog 3 #[.slice ad n cap, .int .i64 f] w fun e w' => e = .returned (.bool true) ∧ Below w.heap.size w w' := by
  by_cases hn : 500 < n
  · go_enter Try.func3, Try.ntmps3
    go_wp2_with fail
    go_ret
    exact ⟨rfl, Below.refl _ _⟩
  by_cases h1 : f < 0
  · skip
    go_enter Try.func3, Try.ntmps3
    go_wp2_with (refine wpList_clone rfl _ _ _ rfl elB rfl rfl hb (by unfold maxLen; omega) (by omega) ?_; intro a1 k1 w1 o1 b1 s1; clear s1)
    refine (factor_bad w1 a1 n k1 f 0 (by unfold FBad; omega)).mono ?_
    rintro e w2 ⟨rfl, rfl⟩
    go_wp2_with fail
    refine (tells_any w1).mono ?_
    rintro e w9 ⟨rfl, b9⟩
    go_wp2_with fail
    go_ret
    exact ⟨rfl, b1.trans (b9.mono b1.size)⟩
  by_cases h2 : (n : Int) < f
  · skip
    go_enter Try.func3, Try.ntmps3
    go_wp2_with (refine wpList_clone rfl _ _ _ rfl elB rfl rfl hb (by unfold maxLen; omega) (by omega) ?_; intro a1 k1 w1 o1 b1 s1; clear s1)
    refine (factor_bad w1 a1 n k1 f 0 (by unfold FBad; omega)).mono ?_
    rintro e w2 ⟨rfl, rfl⟩
    go_wp2_with fail
    refine (tells_any w1).mono ?_
    rintro e w9 ⟨rfl, b9⟩
    go_wp2_with fail
    go_ret
    exact ⟨rfl, b1.trans (b9.mono b1.size)⟩
  obtain ⟨F, rfl⟩ : ∃ F : Nat, f = (F : Int) := ⟨f.toNat, by omega⟩
  have hFn : F ≤ n := by omega
  clear hf
  have q0 : decide (n < F) = false := deF (by omega)
  have hl := hb.len8
  obtain ⟨o, ho⟩ := ordE b
  have hfac := fun W a c (h : Rd W 1 a n c (B8 b)) => factor_law W a n c b h (by omega) o ho F hFn 0 (by decide)
  have hwant := fun W (h : Rd W 1 ad n cap (B8 b)) => refLengths_law W ad n cap b h (by omega) o ho F hFn
  have hget := fun j t => facT_get ho 0 F (by omega) (j := j) (t := t)
  have hall := facT_all ho 0 F (by omega)
  have hlen := facT_len ho 0 F (by omega)
  unfold lensL at hwant
  generalize facT b o 0 F = ts at *
  obtain ⟨L, hL⟩ : ∃ L, ts.length = L := ⟨_, rfl⟩
  simp only [hL] at hfac hwant hlen
  have hLn : L ≤ 500 := by omega
  have HL := Lib.hid hl; clear hl
  have HLL := Lib.hid hL; clear hL
  have HF := Lib.hid hfac; clear hfac
  have HW := Lib.hid hwant; clear hwant
  have HG := Lib.hid hget; clear hget
  have HA := Lib.hid hall; clear hall
  have HO := Lib.hid ho; clear ho
  refine (callsIn_wide (n := 9)).1 ?_
  refine callsIn_of_wp Try.func3 rfl trivial ?_ rfl
  simp only [Try.ntmps3, List.size_toArray, List.length_cons, List.length_nil, Nat.reduceAdd, Nat.reduceSub, Array.replicate_succ, Array.replicate_zero, List.push_toArray, List.append_toArray, List.nil_append, List.cons_append]
  gi_wp2_with (refine wpListIn_clone (fun _ => trivial) rfl _ _ _ rfl elB rfl rfl hb (by unfold maxLen; omega) (by omega) ?_; intro a1 k1 w1 o1 b1 s1; clear s1)
  have r1 := o1.rd
  refine ⟨trivial, callsIn_wide.2 ?_⟩
  refine (HF.out w1 a1 k1 r1).mono ?_
  rintro e w2 ⟨a2, c2, rfl, o2, b2⟩
  have r12 := r1.below b2
  have t2 := o2.rd
  have b12 := b1.trans (b2.mono b1.size)
  clear o1 o2 b2 r1 b1
  gi_wp2
  refine ⟨trivial, callsIn_wide.2 ?_⟩
  refine (HW.out w2 (hb.below b12)).mono ?_
  rintro e w3 ⟨a3, c3, rfl, o3, b3⟩
  have r13 := r12.below b3
  have t3 := t2.below b3
  have x3 := o3.rd
  have b13 := b12.trans (b3.mono b12.size)
  have hb3 := hb.below b13
  have s1 := rstr r13
  have s2 := rstr hb3
  clear o3 b3 b12 t2 r12 r13
  gi_wp2
  clear s1 s2
  gi_loopw [9, 10] (fun v9 v10 wr => ∃ i : Nat, i ≤ L ∧ v9 = .int .i64 ((F + sumA (ts.take i) : Nat) : Int) ∧ v10 = .int .i64 (i : Int) ∧ Below w3.heap.size w3 wr)
    (fun _ v10 _ => L - (intOf v10).toNat)
  case atStart => exact ⟨0, Nat.zero_le _, by simp [sumA], rfl, Below.refl _ _⟩
  case round =>
    obtain ⟨i, hi, rfl, rfl, bw⟩ := hrel
    by_cases hlt : i < L
    · obtain ⟨t, ht, ne2, e0, e1, e2⟩ := (t3.below bw).tok hlt
      obtain ⟨ne3, x0⟩ := (x3.below bw).getI hlt
      have hxl : atI (ts.map (·.len)) i = t.len := by simp [atI, List.getD_eq_getElem?_getD, ht]
      rw [hxl] at x0
      obtain ⟨p1, p2, p3⟩ := HG.out i t ht
      have hst := sumA_take ts i t ht
      obtain ⟨p, hp⟩ : ∃ p, F + sumA (ts.take i) = p := ⟨_, rfl⟩
      rw [hp] at p1 p2 p3 ⊢
      have hst2 : F + sumA (ts.take (i + 1)) = p + adv t := by omega
      rw [HL.out] at p1 p3
      obtain ⟨ne1, cb⟩ := (hb3.below bw).get8 p1
      have hok : TokOk t := by rw [p2]; exact tokAt_ok HO.out 0 (by rw [HL.out]; exact p1)
      have hadv := hok.adv
      have hmay : Hid (∀ W, Calls Try.prog 11 #[tokV t] W fun e w' => e = .returned (.bool true) ∧ Below W.heap.size W w') := Lib.hid fun W => by have := refMay_law W t; rwa [hok.may] at this
      obtain ⟨u, hu⟩ : ∃ u, at8 b p = u := ⟨_, rfl⟩
      rw [hu] at cb
      -- the token's parts
      obtain ⟨m, D, v, ht3, hcase⟩ : ∃ (m D : Nat) (v : UInt8), t = ⟨m, D, v⟩ ∧ ((m = 0 ∧ D = 0 ∧ v = u) ∨ (3 ≤ m ∧ m ≤ 258 ∧ D ≤ p ∧ ∀ s, s < m → p + s < n ∧ at8 b (p + s) = at8 b (p + s - D))) := by
        rw [p2]
        unfold tokAt
        split
        · rename_i hm0
          refine ⟨_, _, _, rfl, .inr ?_⟩
          rcases lng_rp HO.out 0 (i := p) (by rw [HL.out]; exact p1) with e | ⟨q1, q2, q3, q4, q5, q6⟩
          · omega
          · refine ⟨q1, q2, q5, fun s hs => ?_⟩
            obtain ⟨y1, y2, y3⟩ := com_at (s := s) (Nat.lt_of_lt_of_le hs q6)
            rw [HL.out] at y2
            exact ⟨y2, by rw [← y3]; congr 1; omega⟩
        · exact ⟨0, 0, _, rfl, .inl ⟨rfl, rfl, hu⟩⟩
      subst ht3
      dsimp only at e0 e1 e2 x0
      have hadv2 : (if (m : Int) < 1 then (1 : Int) else (m : Int)) = ((adv ⟨m, D, v⟩ : Nat) : Int) := hadv
      generalize adv ⟨m, D, v⟩ = dv at *
      have HP := Lib.hid hp; clear hp
      have HU := Lib.hid hu; clear hu
      have HST := Lib.hid hst2; clear hst hst2 p2 hok hadv ht hxl
      clear x3
      gi_wp2
      have HS : Hid (∀ W', Below wr.heap.size wr.drew W' → (fun w' : World => (w'.cell? (sAt a2 (i * 3)) = some (.int .i64 (m : Int)) ∧ w'.cell? ⟨(sAt a2 (i * 3)).block, (sAt a2 (i * 3)).off + 1, none⟩ = some (.int .i64 (D : Int)) ∧ w'.cell? ⟨(sAt a2 (i * 3)).block, (sAt a2 (i * 3)).off + 2, none⟩ = some (.int .u8 (v.toNat : Int))) ∧ w'.cell? (sAt a3 i) = some (.int .i64 (m : Int)) ∧ w'.cell? (sAt ad p) = some (.int .u8 (u.toNat : Int))) W') := Lib.hid fun W' h => ⟨⟨cell_below (show wr.drew.cell? _ = _ from e0) h, cell_below (show wr.drew.cell? _ = _ from e1) h, cell_below (show wr.drew.cell? _ = _ from e2) h⟩, cell_below (show wr.drew.cell? _ = _ from x0) h, cell_below (show wr.drew.cell? _ = _ from cb) h⟩
      refine regionT [0, 1, 2, 3, 4, 5, 6, 7, 8, 9, 10, 11, 12, 13, 14, 16, 17, 18, 19, 20, 21, 22, 23, 24, 25, 26, 27, 28, 29, 30, 31, 32, 33, 34, 35, 36, 37, 38, 39, 40, 41, 42, 43, 44, 45, 46] (fun w' : World => (w'.cell? (sAt a2 (i * 3)) = some (.int .i64 (m : Int)) ∧ w'.cell? ⟨(sAt a2 (i * 3)).block, (sAt a2 (i * 3)).off + 1, none⟩ = some (.int .i64 (D : Int)) ∧ w'.cell? ⟨(sAt a2 (i * 3)).block, (sAt a2 (i * 3)).off + 2, none⟩ = some (.int .u8 (v.toNat : Int))) ∧ w'.cell? (sAt a3 i) = some (.int .i64 (m : Int)) ∧ w'.cell? (sAt ad p) = some (.int .u8 (u.toNat : Int))) (by kernel_rfl) ?_
      have hSS : (fun w' : World => (w'.cell? (sAt a2 (i * 3)) = some (.int .i64 (m : Int)) ∧ w'.cell? ⟨(sAt a2 (i * 3)).block, (sAt a2 (i * 3)).off + 1, none⟩ = some (.int .i64 (D : Int)) ∧ w'.cell? ⟨(sAt a2 (i * 3)).block, (sAt a2 (i * 3)).off + 2, none⟩ = some (.int .u8 (v.toNat : Int))) ∧ w'.cell? (sAt a3 i) = some (.int .i64 (m : Int)) ∧ w'.cell? (sAt ad p) = some (.int .u8 (u.toNat : Int))) wr.drew := ⟨⟨e0, e1, e2⟩, x0, cb⟩
      clear e0 e1 e2 x0 cb
      have hpi : (p : Int) < (n : Int) := by omega
      have hDp0 : D ≤ p := by rcases hcase with ⟨h1, h2, h3⟩ | ⟨h1, h2, h3, h4⟩ <;> omega
      have q2 : decide ((p : Int) < (D : Int)) = false := deF (by omega)
      have q2n : decide (p < D) = false := deF (by omega)
      refine AnyT.takeD 68 (i := 0) (v := ?_) (by decide) (by kernel_rfl) rfl rfl (by kernel_rfl) (by kernel_rfl) (by kernel_rfl) (by kernel_rfl) (fun _ _ _ h => h) (by assumption) (by rfl) (fun _ => rfl) ?_ ?_
      rotate_left
      focus (intro w hSw; (try dsimp only at hSw); go_split_ands; go_simp; (try with_reducible rfl))
      simp only [List.setIfInBounds_toArray, List.set_cons_zero, List.set_cons_succ]
      refine AnyT.takeD 69 (i := 1) (v := ?_) (by decide) (by kernel_rfl) rfl rfl (by kernel_rfl) (by kernel_rfl) (by kernel_rfl) (by kernel_rfl) (fun _ _ _ h => h) (by assumption) (by rfl) (fun _ => rfl) ?_ ?_
      rotate_left
      focus (intro w hSw; (try dsimp only at hSw); go_split_ands; go_simp; (try with_reducible rfl))
      simp only [List.setIfInBounds_toArray, List.set_cons_zero, List.set_cons_succ]
      refine AnyT.takeD 70 (i := 2) (v := ?_) (by decide) (by kernel_rfl) rfl rfl (by kernel_rfl) (by kernel_rfl) (by kernel_rfl) (by kernel_rfl) (fun _ _ _ h => h) (by assumption) (by rfl) (fun _ => rfl) ?_ ?_
      rotate_left
      focus (intro w hSw; (try dsimp only at hSw); go_split_ands; go_simp; (try with_reducible rfl))
      simp only [List.setIfInBounds_toArray, List.set_cons_zero, List.set_cons_succ]
      refine AnyT.takeD 71 (i := 3) (v := ?_) (by decide) (by kernel_rfl) rfl rfl (by kernel_rfl) (by kernel_rfl) (by kernel_rfl) (by kernel_rfl) (fun _ _ _ h => h) (by assumption) (by rfl) (fun _ => rfl) ?_ ?_
      rotate_left
      focus (intro w hSw; (try dsimp only at hSw); go_split_ands; go_simp; (try with_reducible rfl))
      simp only [List.setIfInBounds_toArray, List.set_cons_zero, List.set_cons_succ]
      refine AnyT.takeD 72 (i := 4) (v := ?_) (by decide) (by kernel_rfl) rfl rfl (by kernel_rfl) (by kernel_rfl) (by kernel_rfl) (by kernel_rfl) (fun _ _ _ h => h) (by assumption) (by rfl) (fun _ => rfl) ?_ ?_
      rotate_left
      focus (intro w hSw; (try dsimp only at hSw); go_split_ands; go_simp; (try with_reducible rfl))
      simp only [List.setIfInBounds_toArray, List.set_cons_zero, List.set_cons_succ]
      refine AnyT.takeD 73 (i := 5) (v := ?_) (by decide) (by kernel_rfl) rfl rfl (by kernel_rfl) (by kernel_rfl) (by kernel_rfl) (by kernel_rfl) (fun _ _ _ h => h) (by assumption) (by rfl) (fun _ => rfl) ?_ ?_
      rotate_left
      focus (intro w hSw; (try dsimp only at hSw); go_split_ands; go_simp; (try with_reducible rfl))
      simp only [List.setIfInBounds_toArray, List.set_cons_zero, List.set_cons_succ]
      refine AnyT.takeD 74 (i := 6) (v := ?_) (by decide) (by kernel_rfl) rfl rfl (by kernel_rfl) (by kernel_rfl) (by kernel_rfl) (by kernel_rfl) (fun _ _ _ h => h) (by assumption) (by rfl) (fun _ => rfl) ?_ ?_
      rotate_left
      focus (intro w hSw; (try dsimp only at hSw); go_split_ands; go_simp; (try with_reducible rfl))
      simp only [List.setIfInBounds_toArray, List.set_cons_zero, List.set_cons_succ]
      refine AnyT.takeD 75 (i := 7) (v := ?_) (by decide) (by kernel_rfl) rfl rfl (by kernel_rfl) (by kernel_rfl) (by kernel_rfl) (by kernel_rfl) (fun _ _ _ h => h) (by assumption) (by rfl) (fun _ => rfl) ?_ ?_
      rotate_left
      focus (intro w hSw; (try dsimp only at hSw); go_split_ands; go_simp; (try with_reducible rfl))
      simp only [List.setIfInBounds_toArray, List.set_cons_zero, List.set_cons_succ]
      refine AnyT.takeD 76 (i := 8) (v := ?_) (by decide) (by kernel_rfl) rfl rfl (by kernel_rfl) (by kernel_rfl) (by kernel_rfl) (by kernel_rfl) (fun _ _ _ h => h) (by assumption) (by rfl) (fun _ => rfl) ?_ ?_
      rotate_left
      focus (intro w hSw; (try dsimp only at hSw); go_split_ands; go_simp; (try with_reducible rfl))
      simp only [List.setIfInBounds_toArray, List.set_cons_zero, List.set_cons_succ]
      refine AnyT.takeD 77 (i := 9) (v := ?_) (by decide) (by kernel_rfl) rfl rfl (by kernel_rfl) (by kernel_rfl) (by kernel_rfl) (by kernel_rfl) (fun _ _ _ h => h) (by assumption) (by rfl) (fun _ => rfl) ?_ ?_
      rotate_left
      focus (intro w hSw; (try dsimp only at hSw); go_split_ands; go_simp; (try with_reducible rfl))
      simp only [List.setIfInBounds_toArray, List.set_cons_zero, List.set_cons_succ]
      refine AnyT.takeD 78 (i := 10) (v := ?_) (by decide) (by kernel_rfl) rfl rfl (by kernel_rfl) (by kernel_rfl) (by kernel_rfl) (by kernel_rfl) (fun _ _ _ h => h) (by assumption) (by rfl) (fun _ => rfl) ?_ ?_
      rotate_left
      focus (intro w hSw; (try dsimp only at hSw); go_split_ands; go_simp; (try with_reducible rfl))
      simp only [List.setIfInBounds_toArray, List.set_cons_zero, List.set_cons_succ]
      refine AnyT.takeD 79 (i := 11) (v := ?_) (by decide) (by kernel_rfl) rfl rfl (by kernel_rfl) (by kernel_rfl) (by kernel_rfl) (by kernel_rfl) (fun _ _ _ h => h) (by assumption) (by rfl) (fun _ => rfl) ?_ ?_
      rotate_left
      focus (intro w hSw; (try dsimp only at hSw); go_split_ands; go_simp; (try with_reducible rfl))
      simp only [List.setIfInBounds_toArray, List.set_cons_zero, List.set_cons_succ]
      refine AnyT.takeD 80 (i := 12) (v := ?_) (by decide) (by kernel_rfl) rfl rfl (by kernel_rfl) (by kernel_rfl) (by kernel_rfl) (by kernel_rfl) (fun _ _ _ h => h) (by assumption) (by rfl) (fun _ => rfl) ?_ ?_
      rotate_left
      focus (intro w hSw; (try dsimp only at hSw); go_split_ands; go_simp; (try with_reducible rfl))
      simp only [List.setIfInBounds_toArray, List.set_cons_zero, List.set_cons_succ]
      refine AnyT.takeD 81 (i := 13) (v := ?_) (by decide) (by kernel_rfl) rfl rfl (by kernel_rfl) (by kernel_rfl) (by kernel_rfl) (by kernel_rfl) (fun _ _ _ h => h) (by assumption) (by rfl) (fun _ => rfl) ?_ ?_
      rotate_left
      focus (intro w hSw; (try dsimp only at hSw); go_split_ands; go_simp; (try with_reducible rfl))
      simp only [List.setIfInBounds_toArray, List.set_cons_zero, List.set_cons_succ]
      refine AnyT.takeD 82 (i := 14) (v := ?_) (by decide) (by kernel_rfl) rfl rfl (by kernel_rfl) (by kernel_rfl) (by kernel_rfl) (by kernel_rfl) (fun _ _ _ h => h) (by assumption) (by rfl) (fun _ => rfl) ?_ ?_
      rotate_left
      focus (intro w hSw; (try dsimp only at hSw); go_split_ands; go_simp; (try with_reducible rfl))
      simp only [List.setIfInBounds_toArray, List.set_cons_zero, List.set_cons_succ]
      refine AnyT.only (i := 15) (by decide +kernel) rfl (by rfl) (fun K hK => ?_)
      go_simp
      refine callWide (hmay.out _) ?_
      rintro e w8 ⟨rfl, b8⟩
      go_simp
      have hS8 := HS.out w8 b8
      have hSS8 : (fun w' : World => (w'.cell? (sAt a2 (i * 3)) = some (.int .i64 (m : Int)) ∧ w'.cell? ⟨(sAt a2 (i * 3)).block, (sAt a2 (i * 3)).off + 1, none⟩ = some (.int .i64 (D : Int)) ∧ w'.cell? ⟨(sAt a2 (i * 3)).block, (sAt a2 (i * 3)).off + 2, none⟩ = some (.int .u8 (v.toNat : Int))) ∧ w'.cell? (sAt a3 i) = some (.int .i64 (m : Int)) ∧ w'.cell? (sAt ad p) = some (.int .u8 (u.toNat : Int))) w8 := hS8
      refine hK.out _ _ (fun _ => hS8) ?_
      clear hK K
      refine AnyT.takeD 84 (i := 16) (v := ?_) (by decide) (by kernel_rfl) rfl rfl (by kernel_rfl) (by kernel_rfl) (by kernel_rfl) (by kernel_rfl) (fun _ _ _ h => h) (by assumption) (by rfl) (fun _ => rfl) ?_ ?_
      rotate_left
      focus (intro w hSw; (try dsimp only at hSw); go_split_ands; go_simp; (try with_reducible rfl))
      simp only [List.setIfInBounds_toArray, List.set_cons_zero, List.set_cons_succ]
      refine AnyT.takeD 85 (i := 17) (v := ?_) (by decide) (by kernel_rfl) rfl rfl (by kernel_rfl) (by kernel_rfl) (by kernel_rfl) (by kernel_rfl) (fun _ _ _ h => h) (by assumption) (by rfl) (fun _ => rfl) ?_ ?_
      rotate_left
      focus (intro w hSw; (try dsimp only at hSw); go_split_ands; go_simp; (try with_reducible rfl))
      simp only [List.setIfInBounds_toArray, List.set_cons_zero, List.set_cons_succ]
      refine AnyT.takeD 86 (i := 18) (v := ?_) (by decide) (by kernel_rfl) rfl rfl (by kernel_rfl) (by kernel_rfl) (by kernel_rfl) (by kernel_rfl) (fun _ _ _ h => h) (by assumption) (by rfl) (fun _ => rfl) ?_ ?_
      rotate_left
      focus (intro w hSw; (try dsimp only at hSw); go_split_ands; go_simp; (try with_reducible rfl))
      simp only [List.setIfInBounds_toArray, List.set_cons_zero, List.set_cons_succ]
      refine AnyT.takeD 87 (i := 19) (v := ?_) (by decide) (by kernel_rfl) rfl rfl (by kernel_rfl) (by kernel_rfl) (by kernel_rfl) (by kernel_rfl) (fun _ _ _ h => h) (by assumption) (by rfl) (fun _ => rfl) ?_ ?_
      rotate_left
      focus (intro w hSw; (try dsimp only at hSw); go_split_ands; go_simp; (try with_reducible rfl))
      simp only [List.setIfInBounds_toArray, List.set_cons_zero, List.set_cons_succ]
      refine AnyT.takeD 88 (i := 20) (v := ?_) (by decide) (by kernel_rfl) rfl rfl (by kernel_rfl) (by kernel_rfl) (by kernel_rfl) (by kernel_rfl) (fun _ _ _ h => h) (by assumption) (by rfl) (fun _ => rfl) ?_ ?_
      rotate_left
      focus (intro w hSw; (try dsimp only at hSw); go_split_ands; go_simp; (try with_reducible rfl))
      simp only [List.setIfInBounds_toArray, List.set_cons_zero, List.set_cons_succ]
      refine AnyT.takeD 89 (i := 21) (v := ?_) (by decide) (by kernel_rfl) rfl rfl (by kernel_rfl) (by kernel_rfl) (by kernel_rfl) (by kernel_rfl) (fun _ _ _ h => h) (by assumption) (by rfl) (fun _ => rfl) ?_ ?_
      rotate_left
      focus (intro w hSw; (try dsimp only at hSw); go_split_ands; go_simp; (try with_reducible rfl))
      simp only [List.setIfInBounds_toArray, List.set_cons_zero, List.set_cons_succ]
      refine AnyT.takeD 90 (i := 22) (v := ?_) (by decide) (by kernel_rfl) rfl rfl (by kernel_rfl) (by kernel_rfl) (by kernel_rfl) (by kernel_rfl) (fun _ _ _ h => h) (by assumption) (by rfl) (fun _ => rfl) ?_ ?_
      rotate_left
      focus (intro w hSw; (try dsimp only at hSw); go_split_ands; go_simp; (try with_reducible rfl))
      simp only [List.setIfInBounds_toArray, List.set_cons_zero, List.set_cons_succ]
      refine AnyT.takeD 91 (i := 23) (v := ?_) (by decide) (by kernel_rfl) rfl rfl (by kernel_rfl) (by kernel_rfl) (by kernel_rfl) (by kernel_rfl) (fun _ _ _ h => h) (by assumption) (by rfl) (fun _ => rfl) ?_ ?_
      rotate_left
      focus (intro w hSw; (try dsimp only at hSw); go_split_ands; go_simp; (try with_reducible rfl))
      simp only [List.setIfInBounds_toArray, List.set_cons_zero, List.set_cons_succ]
      refine AnyT.takeD 92 (i := 24) (v := ?_) (by decide) (by kernel_rfl) rfl rfl (by kernel_rfl) (by kernel_rfl) (by kernel_rfl) (by kernel_rfl) (fun _ _ _ h => h) (by assumption) (by rfl) (fun _ => rfl) ?_ ?_
      rotate_left
      focus (intro w hSw; (try dsimp only at hSw); go_split_ands; go_simp; (try with_reducible rfl))
      simp only [List.setIfInBounds_toArray, List.set_cons_zero, List.set_cons_succ]
      refine AnyT.takeD 93 (i := 25) (v := ?_) (by decide) (by kernel_rfl) rfl rfl (by kernel_rfl) (by kernel_rfl) (by kernel_rfl) (by kernel_rfl) (fun _ _ _ h => h) (by assumption) (by rfl) (fun _ => rfl) ?_ ?_
      rotate_left
      focus (intro w hSw; (try dsimp only at hSw); go_split_ands; go_simp; (try with_reducible rfl))
      simp only [List.setIfInBounds_toArray, List.set_cons_zero, List.set_cons_succ]
      refine AnyT.takeD 94 (i := 26) (v := ?_) (by decide) (by kernel_rfl) rfl rfl (by kernel_rfl) (by kernel_rfl) (by kernel_rfl) (by kernel_rfl) (fun _ _ _ h => h) (by assumption) (by rfl) (fun _ => rfl) ?_ ?_
      rotate_left
      focus (intro w hSw; (try dsimp only at hSw); go_split_ands; go_simp; (try with_reducible rfl))
      simp only [List.setIfInBounds_toArray, List.set_cons_zero, List.set_cons_succ]
      refine AnyT.takeD 95 (i := 27) (v := ?_) (by decide) (by kernel_rfl) rfl rfl (by kernel_rfl) (by kernel_rfl) (by kernel_rfl) (by kernel_rfl) (fun _ _ _ h => h) (by assumption) (by rfl) (fun _ => rfl) ?_ ?_
      rotate_left
      focus (intro w hSw; (try dsimp only at hSw); go_split_ands; go_simp; (try with_reducible rfl))
      simp only [List.setIfInBounds_toArray, List.set_cons_zero, List.set_cons_succ]
      refine AnyT.takeD 96 (i := 28) (v := ?_) (by decide) (by kernel_rfl) rfl rfl (by kernel_rfl) (by kernel_rfl) (by kernel_rfl) (by kernel_rfl) (fun _ _ _ h => h) (by assumption) (by rfl) (fun _ => rfl) ?_ ?_
      rotate_left
      focus (intro w hSw; (try dsimp only at hSw); go_split_ands; go_simp; (try with_reducible rfl))
      simp only [List.setIfInBounds_toArray, List.set_cons_zero, List.set_cons_succ]
      refine AnyT.takeD 97 (i := 29) (v := ?_) (by decide) (by kernel_rfl) rfl rfl (by kernel_rfl) (by kernel_rfl) (by kernel_rfl) (by kernel_rfl) (fun _ _ _ h => h) (by assumption) (by rfl) (fun _ => rfl) ?_ ?_
      rotate_left
      focus (intro w hSw; (try dsimp only at hSw); go_split_ands; go_simp; (try with_reducible rfl))
      simp only [List.setIfInBounds_toArray, List.set_cons_zero, List.set_cons_succ]
      refine AnyT.takeD 98 (i := 30) (v := ?_) (by decide) (by kernel_rfl) rfl rfl (by kernel_rfl) (by kernel_rfl) (by kernel_rfl) (by kernel_rfl) (fun _ _ _ h => h) (by assumption) (by rfl) (fun _ => rfl) ?_ ?_
      rotate_left
      focus (intro w hSw; (try dsimp only at hSw); go_split_ands; go_simp; (try with_reducible rfl))
      simp only [List.setIfInBounds_toArray, List.set_cons_zero, List.set_cons_succ]
      refine AnyT.takeD 99 (i := 31) (v := ?_) (by decide) (by kernel_rfl) rfl rfl (by kernel_rfl) (by kernel_rfl) (by kernel_rfl) (by kernel_rfl) (fun _ _ _ h => h) (by assumption) (by rfl) (fun _ => rfl) ?_ ?_
      rotate_left
      focus (intro w hSw; (try dsimp only at hSw); go_split_ands; go_simp; (try with_reducible rfl))
      simp only [List.setIfInBounds_toArray, List.set_cons_zero, List.set_cons_succ]
      refine AnyT.takeD 100 (i := 32) (v := ?_) (by decide) (by kernel_rfl) rfl rfl (by kernel_rfl) (by kernel_rfl) (by kernel_rfl) (by kernel_rfl) (fun _ _ _ h => h) (by assumption) (by rfl) (fun _ => rfl) ?_ ?_
      rotate_left
      focus (intro w hSw; (try dsimp only at hSw); go_split_ands; go_simp; (try with_reducible rfl))
      simp only [List.setIfInBounds_toArray, List.set_cons_zero, List.set_cons_succ]
      refine AnyT.takeD 101 (i := 33) (v := ?_) (by decide) (by kernel_rfl) rfl rfl (by kernel_rfl) (by kernel_rfl) (by kernel_rfl) (by kernel_rfl) (fun _ _ _ h => h) (by assumption) (by rfl) (fun _ => rfl) ?_ ?_
      rotate_left
      focus (intro w hSw; (try dsimp only at hSw); go_split_ands; go_simp; (try with_reducible rfl))
      simp only [List.setIfInBounds_toArray, List.set_cons_zero, List.set_cons_succ]
      refine AnyT.takeD 102 (i := 34) (v := ?_) (by decide) (by kernel_rfl) rfl rfl (by kernel_rfl) (by kernel_rfl) (by kernel_rfl) (by kernel_rfl) (fun _ _ _ h => h) (by assumption) (by rfl) (fun _ => rfl) ?_ ?_
      rotate_left
      focus (intro w hSw; (try dsimp only at hSw); go_split_ands; go_simp; (try with_reducible rfl))
      simp only [List.setIfInBounds_toArray, List.set_cons_zero, List.set_cons_succ]
      rcases hcase with ⟨hm0, hD0, hvu⟩ | ⟨hm3, hm258, hDp, hcom⟩
      · have q1 : ((m : Int) == 0) = true := by rw [hm0]; rfl
        have hcom : Hid (∀ s, s < m → D ≤ p ∧ p + s < n ∧ at8 b (p + s) = at8 b (p + s - D)) := Lib.hid fun s hs => by omega
        have hm258 : m ≤ 258 := by omega
        subst hvu
        clear hm0 hD0
        (try simp only [q1])
        refine AnyT.takeD 103 (i := 35) (v := ?_) (by decide) (by kernel_rfl) rfl rfl (by kernel_rfl) (by kernel_rfl) (by kernel_rfl) (by kernel_rfl) (fun _ _ _ h => h) (by assumption) (by rfl) (fun _ => rfl) ?_ ?_
        rotate_left
        focus (intro w hSw; (try dsimp only at hSw); go_split_ands; go_simp; (try with_reducible rfl))
        simp only [List.setIfInBounds_toArray, List.set_cons_zero, List.set_cons_succ]
        refine AnyT.takeD 104 (i := 36) (v := ?_) (by decide) (by kernel_rfl) rfl rfl (by kernel_rfl) (by kernel_rfl) (by kernel_rfl) (by kernel_rfl) (fun _ _ _ h => h) (by assumption) (by rfl) (fun _ => rfl) ?_ ?_
        rotate_left
        focus (intro w hSw; (try dsimp only at hSw); go_split_ands; go_simp; (try with_reducible rfl))
        simp only [List.setIfInBounds_toArray, List.set_cons_zero, List.set_cons_succ]
        refine AnyT.takeD 105 (i := 37) (v := ?_) (by decide) (by kernel_rfl) rfl rfl (by kernel_rfl) (by kernel_rfl) (by kernel_rfl) (by kernel_rfl) (fun _ _ _ h => h) (by assumption) (by rfl) (fun _ => rfl) ?_ ?_
        rotate_left
        focus (intro w hSw; (try dsimp only at hSw); go_split_ands; go_simp; (try with_reducible rfl))
        simp only [List.setIfInBounds_toArray, List.set_cons_zero, List.set_cons_succ]
        refine AnyT.takeD 106 (i := 38) (v := ?_) (by decide) (by kernel_rfl) rfl rfl (by kernel_rfl) (by kernel_rfl) (by kernel_rfl) (by kernel_rfl) (fun _ _ _ h => h) (by assumption) (by rfl) (fun _ => rfl) ?_ ?_
        rotate_left
        focus (intro w hSw; (try dsimp only at hSw); go_split_ands; go_simp; (try with_reducible rfl))
        simp only [List.setIfInBounds_toArray, List.set_cons_zero, List.set_cons_succ]
        refine AnyT.takeD 107 (i := 39) (v := ?_) (by decide) (by kernel_rfl) rfl rfl (by kernel_rfl) (by kernel_rfl) (by kernel_rfl) (by kernel_rfl) (fun _ _ _ h => h) (by assumption) (by rfl) (fun _ => rfl) ?_ ?_
        rotate_left
        focus (intro w hSw; (try dsimp only at hSw); go_split_ands; go_simp; (try with_reducible rfl))
        simp only [List.setIfInBounds_toArray, List.set_cons_zero, List.set_cons_succ]
        refine AnyT.takeD 108 (i := 40) (v := ?_) (by decide) (by kernel_rfl) rfl rfl (by kernel_rfl) (by kernel_rfl) (by kernel_rfl) (by kernel_rfl) (fun _ _ _ h => h) (by assumption) (by rfl) (fun _ => rfl) ?_ ?_
        rotate_left
        focus (intro w hSw; (try dsimp only at hSw); go_split_ands; go_simp; (try with_reducible rfl))
        simp only [List.setIfInBounds_toArray, List.set_cons_zero, List.set_cons_succ]
        refine AnyT.takeD 109 (i := 41) (v := ?_) (by decide) (by kernel_rfl) rfl rfl (by kernel_rfl) (by kernel_rfl) (by kernel_rfl) (by kernel_rfl) (fun _ _ _ h => h) (by assumption) (by rfl) (fun _ => rfl) ?_ ?_
        rotate_left
        focus (intro w hSw; (try dsimp only at hSw); go_split_ands; go_simp; (try with_reducible rfl))
        simp only [List.setIfInBounds_toArray, List.set_cons_zero, List.set_cons_succ]
        refine AnyT.takeD 110 (i := 42) (v := ?_) (by decide) (by kernel_rfl) rfl rfl (by kernel_rfl) (by kernel_rfl) (by kernel_rfl) (by kernel_rfl) (fun _ _ _ h => h) (by assumption) (by rfl) (fun _ => rfl) ?_ ?_
        rotate_left
        focus (intro w hSw; (try dsimp only at hSw); go_split_ands; go_simp; (try with_reducible rfl))
        simp only [List.setIfInBounds_toArray, List.set_cons_zero, List.set_cons_succ]
        refine AnyT.takeD 111 (i := 43) (v := ?_) (by decide) (by kernel_rfl) rfl rfl (by kernel_rfl) (by kernel_rfl) (by kernel_rfl) (by kernel_rfl) (fun _ _ _ h => h) (by assumption) (by rfl) (fun _ => rfl) ?_ ?_
        rotate_left
        focus (intro w hSw; (try dsimp only at hSw); go_split_ands; go_simp; (try with_reducible rfl))
        simp only [List.setIfInBounds_toArray, List.set_cons_zero, List.set_cons_succ]
        refine AnyT.takeD 112 (i := 44) (v := ?_) (by decide) (by kernel_rfl) rfl rfl (by kernel_rfl) (by kernel_rfl) (by kernel_rfl) (by kernel_rfl) (fun _ _ _ h => h) (by assumption) (by rfl) (fun _ => rfl) ?_ ?_
        rotate_left
        focus (intro w hSw; (try dsimp only at hSw); go_split_ands; go_simp; (try with_reducible rfl))
        simp only [List.setIfInBounds_toArray, List.set_cons_zero, List.set_cons_succ]
        refine AnyT.takeD 113 (i := 45) (v := ?_) (by decide) (by kernel_rfl) rfl rfl (by kernel_rfl) (by kernel_rfl) (by kernel_rfl) (by kernel_rfl) (fun _ _ _ h => h) (by assumption) (by rfl) (fun _ => rfl) ?_ ?_
        rotate_left
        focus (intro w hSw; (try dsimp only at hSw); go_split_ands; go_simp; (try with_reducible rfl))
        simp only [List.setIfInBounds_toArray, List.set_cons_zero, List.set_cons_succ]
        refine AnyT.takeD 114 (i := 46) (v := ?_) (by decide) (by kernel_rfl) rfl rfl (by kernel_rfl) (by kernel_rfl) (by kernel_rfl) (by kernel_rfl) (fun _ _ _ h => h) (by assumption) (by rfl) (fun _ => rfl) ?_ ?_
        rotate_left
        focus (intro w hSw; (try dsimp only at hSw); go_split_ands; go_simp; (try with_reducible rfl))
        simp only [List.setIfInBounds_toArray, List.set_cons_zero, List.set_cons_succ]
        refine AnyT.done (by decide +kernel) ?_ _
        clear hSS hSS8 hS8 q1 q2 q2n hmay
        gi_wp2
        gi_loopw [11] (fun v11 wx => ∃ s : Nat, s ≤ m ∧ v11 = .int .i64 (s : Int) ∧ Below wr.heap.size wr.drew wx) (fun v11 _ => m - (intOf v11).toNat)
        case atStart => exact ⟨0, Nat.zero_le _, rfl, b8⟩
        case round =>
          clear b8
          obtain ⟨s, hs, rfl, bx⟩ := hrel
          rename World => wx
          have bwx := bw.drew.trans (bx.mono bw.size)
          obtain ⟨⟨e0, e1, e2⟩, _, _⟩ := HS.out wx bx
          by_cases hlt2 : s < m
          · obtain ⟨hDp2, hxn, hxy⟩ := hcom.out s hlt2
            obtain ⟨x, hx⟩ : ∃ x, p + s = x := ⟨_, rfl⟩
            obtain ⟨y, hy⟩ : ∃ y, p + s - D = y := ⟨_, rfl⟩
            have e3 : (p : Int) + (s : Int) = (x : Int) := by omega
            have e4 : (x : Int) - (D : Int) = (y : Int) := by omega
            rw [hx] at hxn
            rw [hx, ← hx, hy, hx] at hxy
            have hyn : y < n := by omega
            have w1 : IntKind.i64.wrap (x : Int) = (x : Int) := IntWalk.i64_in _ (by omega)
            have w2 : IntKind.i64.wrap (y : Int) = (y : Int) := IntWalk.i64_in _ (by omega)
            obtain ⟨_, cx⟩ := (hb3.below bwx).get8 hxn
            obtain ⟨_, cy⟩ := (hb3.below bwx).get8 hyn
            rw [hxy] at cx
            obtain ⟨cc, hcc⟩ : ∃ v, (at8 b y).toNat = v := ⟨_, rfl⟩
            rw [hcc] at cx cy
            clear hcc hx hy hxy
            have hx2 : (x : Int) < (n : Int) := by omega
            have hy2 : (y : Int) < (n : Int) := by omega
            have hsm : (s : Int) < (m : Int) := by omega
            have t3 : ((cc : Int) == (cc : Int)) = true := by simp
            gi_wp2
            (try simp only [List.append])
            refine wpIn_region_quiet_lit rfl (by kernel_rfl) (by kernel_rfl) ?_
            repeat (gi_big_quiet_step (fail))
            refine wpQuietIn_nil ?_
            intro _ hw'
            obtain ⟨nq, hw''⟩ := hw'
            subst hw''
            have bn := bDraws bx nq
            clear e0 e1 e2 cx cy bx bwx e3 e4 w1 w2
            generalize wx.drewN nq = wy at *
            gi_wp2
            go_roundw
            case rel => exact ⟨s + 1, by omega, by simp, bn⟩
            case measure => simp [intOf]; omega
          · obtain rfl : s = m := by omega
            have hdv : (s = 0 ∧ dv = 1) ∨ (1 ≤ s ∧ dv = s) := by
              by_cases h1 : (s : Int) < 1
              · rw [if_pos h1] at hadv2; omega
              · rw [if_neg h1] at hadv2; omega
            clear hadv2
            rcases hdv with ⟨rfl, rfl⟩ | ⟨hs1, rfl⟩
            · gi_wp2
              go_roundw
              case rel => exact ⟨i + 1, by omega, by rw [HST.out]; rfl, by simp, bwx⟩
              case measure => simp [intOf]; omega
            · have hm1 : ¬ (dv : Int) < 1 := by omega
              gi_wp2
              go_roundw
              case rel => exact ⟨i + 1, by omega, by rw [HST.out]; rfl, by simp, bwx⟩
              case measure => simp [intOf]; omega
      · have q1 : ((m : Int) == 0) = false := beq_eq_false_iff_ne.2 (by omega)
        have hcom : Hid (∀ s, s < m → D ≤ p ∧ p + s < n ∧ at8 b (p + s) = at8 b (p + s - D)) := Lib.hid fun s hs => ⟨hDp, hcom s hs⟩
        clear hm3 hDp
        (try simp only [q1])
        refine AnyT.skipD 103 (i := 35) (by decide) (by kernel_rfl) rfl rfl (by kernel_rfl) (by kernel_rfl) (by kernel_rfl) (by kernel_rfl) (fun _ _ _ h => h) (by assumption) (by rfl) (fun _ => rfl) ?_
        simp only [List.setIfInBounds_toArray, List.set_cons_zero, List.set_cons_succ]
        refine AnyT.skipD 104 (i := 36) (by decide) (by kernel_rfl) rfl rfl (by kernel_rfl) (by kernel_rfl) (by kernel_rfl) (by kernel_rfl) (fun _ _ _ h => h) (by assumption) (by rfl) (fun _ => rfl) ?_
        simp only [List.setIfInBounds_toArray, List.set_cons_zero, List.set_cons_succ]
        refine AnyT.skipD 105 (i := 37) (by decide) (by kernel_rfl) rfl rfl (by kernel_rfl) (by kernel_rfl) (by kernel_rfl) (by kernel_rfl) (fun _ _ _ h => h) (by assumption) (by rfl) (fun _ => rfl) ?_
        simp only [List.setIfInBounds_toArray, List.set_cons_zero, List.set_cons_succ]
        refine AnyT.skipD 106 (i := 38) (by decide) (by kernel_rfl) rfl rfl (by kernel_rfl) (by kernel_rfl) (by kernel_rfl) (by kernel_rfl) (fun _ _ _ h => h) (by assumption) (by rfl) (fun _ => rfl) ?_
        simp only [List.setIfInBounds_toArray, List.set_cons_zero, List.set_cons_succ]
        refine AnyT.skipD 107 (i := 39) (by decide) (by kernel_rfl) rfl rfl (by kernel_rfl) (by kernel_rfl) (by kernel_rfl) (by kernel_rfl) (fun _ _ _ h => h) (by assumption) (by rfl) (fun _ => rfl) ?_
        simp only [List.setIfInBounds_toArray, List.set_cons_zero, List.set_cons_succ]
        refine AnyT.skipD 108 (i := 40) (by decide) (by kernel_rfl) rfl rfl (by kernel_rfl) (by kernel_rfl) (by kernel_rfl) (by kernel_rfl) (fun _ _ _ h => h) (by assumption) (by rfl) (fun _ => rfl) ?_
        simp only [List.setIfInBounds_toArray, List.set_cons_zero, List.set_cons_succ]
        refine AnyT.skipD 109 (i := 41) (by decide) (by kernel_rfl) rfl rfl (by kernel_rfl) (by kernel_rfl) (by kernel_rfl) (by kernel_rfl) (fun _ _ _ h => h) (by assumption) (by rfl) (fun _ => rfl) ?_
        simp only [List.setIfInBounds_toArray, List.set_cons_zero, List.set_cons_succ]
        refine AnyT.skipD 110 (i := 42) (by decide) (by kernel_rfl) rfl rfl (by kernel_rfl) (by kernel_rfl) (by kernel_rfl) (by kernel_rfl) (fun _ _ _ h => h) (by assumption) (by rfl) (fun _ => rfl) ?_
        simp only [List.setIfInBounds_toArray, List.set_cons_zero, List.set_cons_succ]
        refine AnyT.skipD 111 (i := 43) (by decide) (by kernel_rfl) rfl rfl (by kernel_rfl) (by kernel_rfl) (by kernel_rfl) (by kernel_rfl) (fun _ _ _ h => h) (by assumption) (by rfl) (fun _ => rfl) ?_
        simp only [List.setIfInBounds_toArray, List.set_cons_zero, List.set_cons_succ]
        refine AnyT.skipD 112 (i := 44) (by decide) (by kernel_rfl) rfl rfl (by kernel_rfl) (by kernel_rfl) (by kernel_rfl) (by kernel_rfl) (fun _ _ _ h => h) (by assumption) (by rfl) (fun _ => rfl) ?_
        simp only [List.setIfInBounds_toArray, List.set_cons_zero, List.set_cons_succ]
        refine AnyT.takeD 113 (i := 45) (v := ?_) (by decide) (by kernel_rfl) rfl rfl (by kernel_rfl) (by kernel_rfl) (by kernel_rfl) (by kernel_rfl) (fun _ _ _ h => h) (by assumption) (by rfl) (fun _ => rfl) ?_ ?_
        rotate_left
        focus (intro w hSw; (try dsimp only at hSw); go_split_ands; go_simp; (try with_reducible rfl))
        simp only [List.setIfInBounds_toArray, List.set_cons_zero, List.set_cons_succ]
        refine AnyT.takeD 114 (i := 46) (v := ?_) (by decide) (by kernel_rfl) rfl rfl (by kernel_rfl) (by kernel_rfl) (by kernel_rfl) (by kernel_rfl) (fun _ _ _ h => h) (by assumption) (by rfl) (fun _ => rfl) ?_ ?_
        rotate_left
        focus (intro w hSw; (try dsimp only at hSw); go_split_ands; go_simp; (try with_reducible rfl))
        simp only [List.setIfInBounds_toArray, List.set_cons_zero, List.set_cons_succ]
        refine AnyT.done (by decide +kernel) ?_ _
        clear hSS hSS8 hS8 q1 q2 q2n hmay
        gi_wp2
        gi_loopw [11] (fun v11 wx => ∃ s : Nat, s ≤ m ∧ v11 = .int .i64 (s : Int) ∧ Below wr.heap.size wr.drew wx) (fun v11 _ => m - (intOf v11).toNat)
        case atStart => exact ⟨0, Nat.zero_le _, rfl, b8⟩
        case round =>
          clear b8
          obtain ⟨s, hs, rfl, bx⟩ := hrel
          rename World => wx
          have bwx := bw.drew.trans (bx.mono bw.size)
          obtain ⟨⟨e0, e1, e2⟩, _, _⟩ := HS.out wx bx
          by_cases hlt2 : s < m
          · obtain ⟨hDp2, hxn, hxy⟩ := hcom.out s hlt2
            obtain ⟨x, hx⟩ : ∃ x, p + s = x := ⟨_, rfl⟩
            obtain ⟨y, hy⟩ : ∃ y, p + s - D = y := ⟨_, rfl⟩
            have e3 : (p : Int) + (s : Int) = (x : Int) := by omega
            have e4 : (x : Int) - (D : Int) = (y : Int) := by omega
            rw [hx] at hxn
            rw [hx, ← hx, hy, hx] at hxy
            have hyn : y < n := by omega
            have w1 : IntKind.i64.wrap (x : Int) = (x : Int) := IntWalk.i64_in _ (by omega)
            have w2 : IntKind.i64.wrap (y : Int) = (y : Int) := IntWalk.i64_in _ (by omega)
            obtain ⟨_, cx⟩ := (hb3.below bwx).get8 hxn
            obtain ⟨_, cy⟩ := (hb3.below bwx).get8 hyn
            rw [hxy] at cx
            obtain ⟨cc, hcc⟩ : ∃ v, (at8 b y).toNat = v := ⟨_, rfl⟩
            rw [hcc] at cx cy
            clear hcc hx hy hxy
            have hx2 : (x : Int) < (n : Int) := by omega
            have hy2 : (y : Int) < (n : Int) := by omega
            have hsm : (s : Int) < (m : Int) := by omega
            have t3 : ((cc : Int) == (cc : Int)) = true := by simp
            gi_wp2
            (try simp only [List.append])
            refine wpIn_region_quiet_lit rfl (by kernel_rfl) (by kernel_rfl) ?_
            repeat (gi_big_quiet_step (fail))
            refine wpQuietIn_nil ?_
            intro _ hw'
            obtain ⟨nq, hw''⟩ := hw'
            subst hw''
            have bn := bDraws bx nq
            clear e0 e1 e2 cx cy bx bwx e3 e4 w1 w2
            generalize wx.drewN nq = wy at *
            gi_wp2
            go_roundw
            case rel => exact ⟨s + 1, by omega, by simp, bn⟩
            case measure => simp [intOf]; omega
          · obtain rfl : s = m := by omega
            have hdv : (s = 0 ∧ dv = 1) ∨ (1 ≤ s ∧ dv = s) := by
              by_cases h1 : (s : Int) < 1
              · rw [if_pos h1] at hadv2; omega
              · rw [if_neg h1] at hadv2; omega
            clear hadv2
            rcases hdv with ⟨rfl, rfl⟩ | ⟨hs1, rfl⟩
            · gi_wp2
              go_roundw
              case rel => exact ⟨i + 1, by omega, by rw [HST.out]; rfl, by simp, bwx⟩
              case measure => simp [intOf]; omega
            · have hm1 : ¬ (dv : Int) < 1 := by omega
              gi_wp2
              go_roundw
              case rel => exact ⟨i + 1, by omega, by rw [HST.out]; rfl, by simp, bwx⟩
              case measure => simp [intOf]; omega
    · obtain rfl : i = L := by omega
      have hat : F + sumA (ts.take i) = n := by rw [← HLL.out, List.take_length, HA.out, HL.out]
      rw [hat]
      gi_wp2
      refine ⟨trivial, callsIn_wide.2 ?_⟩
      refine (tells_any wr).mono ?_
      rintro e w9 ⟨rfl, b9⟩
      gi_wp2
      go_ret
      have b3 := b13.trans (bw.mono b13.size)
      exact ⟨rfl, b3.trans (b9.mono b3.size)⟩
end Go.Proofs.Ytnlemaaglbbdnaa
