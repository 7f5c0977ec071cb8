/- lcp.heights: the iterator; lcp.Heights: the loop over it. -/
import Derived.Test.YtnlemaaglbbdnaaLcpB
import Derived.Test.YtnlemaaglbbdnaaRegL
import Derived.Sort.BigQuietIn
namespace Go.Proofs.Ytnlemaaglbbdnaa
set_option linter.unusedSimpArgs false
set_option linter.unusedVariables false
open Go.RowKit Go.Shelf
attribute [local go_sem] Oper.semAt_some

/-- one element: a place in the order, its height -/
def htE (b : List UInt8) (o pl : List Nat) (k : Nat) : Array Value := #[.int .i64 ((atN pl k : Nat) : Int), .int .i64 ((hgt b o (atN pl k) : Nat) : Int)]
theorem onB_comm (b : List UInt8) (i j : Nat) : onB b i j = onB b j i := by
  rw [Bool.eq_iff_iff, onB_iff, onB_iff]
  constructor <;> rintro ⟨h1, h2, h3⟩ <;> exact ⟨h2, h1, h3.symm⟩
theorem Com.symm {b : List UInt8} {i j n : Nat} (h : Com b i j n) : Com b j i n := ⟨fun s hs => by rw [onB_comm]; exact h.1 s hs, by rw [onB_comm]; exact h.2⟩
theorem inv_nat {o p : List Nat} {n : Nat} (hl : o.length = n) (hg : Good (o.map fun c : Nat => (c : Int))) (hi : Inv (o.map fun c : Nat => (c : Int)) p) : (∀ v, v < n → atN p v < n ∧ atN o (atN p v) = v) ∧ p.length = n := by
  have hp : p.length = n := by have := hi.1; simpa [hl] using this
  refine ⟨fun v hv => ?_, hp⟩
  have := hi.at hg (v := v) (by simpa [hl] using hv)
  rw [List.length_map, hl, atI_nat] at this
  exact ⟨this.1, by omega⟩
theorem Ordered.good {b : List UInt8} {r : Bool} {o : List Nat} (h : Ordered b r o) : Good (o.map fun c : Nat => (c : Int)) :=
  Good.ofNat h.len (fun p hp => h.ord.lt hp) (fun p q hp hq e => h.ord.inj hp hq e)

set_option maxRecDepth 100000 in
set_option maxHeartbeats 4000000 in
theorem heights1_in (m l Bo Bb M : Nat) (hm : 1 ≤ m) (n : Nat) (b : List UInt8) (o pl : List Nat) (hn : n ≤ 100000) (ab ao : Option Addr) (cb co : Nat) (hl : b.length = n) (ho : Ordered b false o) (hpl : Inv (o.map fun c : Nat => (c : Int)) pl)
    (J Jx : Nat → World → Prop) (hJ : AbW (fun _ => False) J)
    (hY : ∀ k W1, J k W1 → k < n → YieldAt Fence.wide (m - 1) Try.prog l (htE b o pl k) W1 fun e W' =>
      (e = .returned (.bool true) ∧ J (k + 1) W' ∧ KeepB (fun r => r = Bo ∨ r = Bb ∨ (0 < n ∧ ∃ a, ab = some a ∧ r = a.block) ∨ (0 < n ∧ ∃ a, ao = some a ∧ r = a.block) ∨ M ≤ r) W1 W') ∨ (e = .returned (.bool false) ∧ Jx (k + 1) W'))
    (W : World) (hM : M ≤ W.heap.size) (hBo : Boxed W Bo 28 (.slice ao n co)) (hBb : Boxed W Bb 22 (.slice ab n cb)) (hrb : Rd W 1 ab n cb (B8 b)) (hro : Rd W 1 ao n co (N64 o)) (h0 : J 0 W) :
    CallsIn Fence.wide m Try.prog 43 #[.func (.yield l) #[] #[], .pointer (some ⟨Bo, 0, none⟩), .pointer (some ⟨Bb, 0, none⟩)] W fun e W' => (∃ v, e = .returned v) ∧
      (J n W' ∨ ∃ k, k ≤ n ∧ Jx k W') := by
  subst hl
  have hgd := ho.good
  obtain ⟨hat, hpln⟩ := inv_nat ho.len hgd hpl
  refine callsIn_of_wp Try.func43 rfl trivial ?_ rfl
  simp only [Try.ntmps43, List.size_toArray, List.length_cons, List.length_nil, Nat.reduceAdd, Nat.reduceSub, Array.replicate_succ, Array.replicate_zero, List.push_toArray, List.append_toArray, List.nil_append, List.cons_append]
  have cO := hBo.cell
  have hro2 := hro
  rw [N64_I64] at hro2
  have hplc := places_law W ao b.length co _ hro2 hn
  have HPL := Lib.hid hplc; clear hplc hro2
  have HAT := Lib.hid hat; clear hat
  have HO := Lib.hid ho; clear ho
  gi_wp2_with (refine ⟨trivial, ?_⟩; gi_at_call 20; refine (callsIn_wide.2 HPL.out).mono ?_; rintro e W2 ⟨hcase, b2⟩; rcases hcase with ⟨hbad, _⟩ | ⟨_, g, pl2, rfl, og, hinv⟩; · exact absurd hgd hbad)
  obtain rfl := Inv.unique hgd hpl hinv
  have i2 := hJ 0 W W2 none h0 (grown_below b2 none) (fun r e => by cases e)
  have hg := og.blk rfl
  have x0 : Boxed W2 Bo 28 (.slice ao b.length co) := (b2.block _ hBo.lt).trans hBo
  have x1 : Boxed W2 Bb 22 (.slice ab b.length cb) := (b2.block _ hBb.lt).trans hBb
  have x2 := hrb.below b2
  have x3 := hro.below b2
  clear cO hinv hpl hgd h0 HPL b2 hrb hro hBo hBb hpln
  gi_loopw [4, 11] (fun x i wr => ∃ k m : Nat, k ≤ b.length ∧ x = .int .i64 (m : Int) ∧ i = .int .i64 (k : Int) ∧ J k wr ∧ Boxed wr Bo 28 (.slice ao b.length co) ∧ Boxed wr Bb 22 (.slice ab b.length cb) ∧ Rd wr 1 ab b.length cb (B8 b) ∧ Rd wr 1 ao b.length co (N64 o) ∧ Own wr 3 1 W.heap.size (some ⟨g, 0, none⟩) b.length b.length (N64 pl) ∧ m ≤ b.length ∧
      Hid (k < b.length → atN pl k ≠ 0 → m ≤ hgt b o (atN pl k)))
    (fun x i _ => b.length - (intOf i).toNat)
  case atStart => exact ⟨0, 0, Nat.zero_le _, rfl, rfl, i2, x0, x1, x2, x3, og, Nat.zero_le _, Lib.hid fun _ _ => Nat.zero_le _⟩
  case round =>
    clear i2 x0 x1 x2 x3 og
    obtain ⟨k, m0, hk, rfl, rfl, hJs, x0, x1, x2, x3, og, hm0, hle⟩ := hrel
    by_cases hlt : k < b.length
    · obtain ⟨cp, _⟩ := og.getN hlt
      obtain ⟨hp1, hp2⟩ := HAT.out k hlt
      have hle2 := hle.out hlt
      obtain ⟨p, hpk⟩ : ∃ p, atN pl k = p := ⟨_, rfl⟩
      rw [hpk] at cp hp1 hp2 hle2
      have HPK := Lib.hid hpk; clear hpk
      by_cases hp0 : p = 0
      · have hh : hgt b o p = 0 := by simp [hgt, hp0]
        subst hp0
        have hz : ((0 : Nat) : Int) = 0 := rfl
        rw [hz] at cp
        have hpb : 0 < b.length := hp1
        have hmx : ((0 - 1 : Nat) : Int) = 0 := rfl
        obtain ⟨fn, tmps, assign, body, hy, hR⟩ := hY k _ hJs hlt
        dsimp only [htE] at hy
        rw [HPK.out, hh] at hy
        rw [hz] at hy; clear hz
        have HK := Lib.hid (kasai HO.out hpb (q := atN pl (k + 1)))
        gi_wp2
        refine hR.mono ?_
        rintro e W3 (⟨rfl, hJ3, hk3⟩ | ⟨rfl, hJx3⟩)
        · have y0 : Boxed W3 Bo 28 (.slice ao b.length co) := (hk3 Bo (.inl rfl)).trans x0
          have y1 : Boxed W3 Bb 22 (.slice ab b.length cb) := (hk3 Bb (.inr (.inl rfl))).trans x1
          have y2 := x2.keep (w' := W3) fun a ha => hk3 a.block (.inr (.inr (.inl ⟨by omega, a, ha, rfl⟩)))
          have y3 := x3.keep (w' := W3) fun a ha => hk3 a.block (.inr (.inr (.inr (.inl ⟨by omega, a, ha, rfl⟩))))
          have y4 := og.keep (w' := W3) fun x hx => by cases hx; exact hk3 g (.inr (.inr (.inr (.inr (by have := hg.1; omega)))))
          gi_wp2
          go_roundw
          case rel => exact ⟨k + 1, 0 - 1, by omega, by simp, by simp, hJ3, y0, y1, y2, y3, y4, by omega, Lib.hid fun h1 h2 => by
            obtain ⟨q1, q2⟩ := HAT.out (k + 1) h1
            have := HK.out q1 (by rw [q2, hp2]) h2
            rw [hh] at this; exact this⟩
          case measure => simp [intOf]; omega
        · gi_wp2
          refine bodyPost_ret (results_none rfl _ _ _) rfl ?_
          exact ⟨⟨_, rfl⟩, .inr ⟨_, by omega, hJx3⟩⟩
      · have hp00 : ¬ (p : Int) = 0 := by omega
        obtain ⟨q, hq⟩ : ∃ q, p = q + 1 := ⟨p - 1, by omega⟩
        have hqn : q < b.length := by omega
        have hsub : (p : Int) - 1 = (q : Int) := by omega
        have hqn2 : (q : Int) < (b.length : Int) := by omega
        have hw1 : IntKind.i64.wrap (q : Int) = (q : Int) := IntWalk.i64_in _ (by omega)
        obtain ⟨nq0, cq⟩ := x3.getN hqn
        obtain ⟨u, hu⟩ : ∃ u, atN o (p - 1) = u := ⟨_, rfl⟩
        have hu2 : atN o q = u := by rw [← hu, hq]; rfl
        rw [hu2] at cq
        have hub : u < b.length := by rw [← hu2]; exact HO.out.ord.lt hqn
        have hle3 := hle2 hp0
        rw [hgt, if_neg hp0, hp2, hu] at hle3
        have hcs := (HO.out.dif (p := q) (q := p) (by omega) hp1).com
        rw [hu2, hp2] at hcs
        have hs0 : ∀ s, s < m0 → onB b (k + s) (u + s) = true := fun s hs => by rw [onB_comm]; exact hcs.1 s (by omega)
        have HS0 := Lib.hid hs0; clear hs0
        have HU := Lib.hid hu; clear hu
        have HQ := Lib.hid hq; clear hq
        clear hle hle2 hle3 hcs hu2
        have co0 := x0.cell
        gi_wp2
        clear co0 hsub hw1
        gi_loopw [4] (fun x wq => ∃ m : Nat, x = .int .i64 (m : Int) ∧ J k wq ∧ Boxed wq Bo 28 (.slice ao b.length co) ∧ Boxed wq Bb 22 (.slice ab b.length cb) ∧ Rd wq 1 ab b.length cb (B8 b) ∧ Rd wq 1 ao b.length co (N64 o) ∧ Own wq 3 1 W.heap.size (some ⟨g, 0, none⟩) b.length b.length (N64 pl) ∧ m ≤ b.length ∧ Hid (∀ s, s < m → onB b (k + s) (u + s) = true))
          (fun x _ => b.length + 1 - (intOf x).toNat)
        case atStart => exact ⟨m0, rfl, hJs, x0, x1, x2, x3, og, hm0, HS0⟩
        case round =>
          clear hJs x0 x1 x2 x3 og hm0 HS0 cp cq
          obtain ⟨m, rfl, hJs, x0, x1, x2, x3, og, hm0, hs⟩ := hrel
          rename World => wq
          obtain ⟨x, hx⟩ : ∃ x, k + m = x := ⟨_, rfl⟩
          obtain ⟨y, hy0⟩ : ∃ y, u + m = y := ⟨_, rfl⟩
          have e1 : (k : Int) + (m : Int) = (x : Int) := by omega
          have e2 : (u : Int) + (m : Int) = (y : Int) := by omega
          have w1 : IntKind.i64.wrap (x : Int) = (x : Int) := IntWalk.i64_in _ (by omega)
          have w2 : IntKind.i64.wrap (y : Int) = (y : Int) := IntWalk.i64_in _ (by omega)
          have HX := Lib.hid hx; clear hx
          have HY := Lib.hid hy0; clear hy0
          have cb0 := x1.cell
          by_cases h1 : x < b.length
          · have t1 : decide ((x : Int) < (b.length : Int)) = true := deT (by omega)
            by_cases h2 : y < b.length
            · have t2 : decide ((y : Int) < (b.length : Int)) = true := deT (by omega)
              obtain ⟨nx, cx⟩ := x2.get8 h1
              obtain ⟨ny, cy⟩ := x2.get8 h2
              obtain ⟨c1, hc1⟩ : ∃ v, (at8 b x).toNat = v := ⟨_, rfl⟩
              obtain ⟨c2, hc2⟩ : ∃ v, (at8 b y).toNat = v := ⟨_, rfl⟩
              rw [hc1] at cx; rw [hc2] at cy
              have HC1 := Lib.hid hc1; clear hc1
              have HC2 := Lib.hid hc2; clear hc2
              have hx2 : (x : Int) < (b.length : Int) := by omega
              have hy2 : (y : Int) < (b.length : Int) := by omega
              by_cases huv : c1 = c2
              · have t3 : (((c1 : Nat) : Int) == ((c2 : Nat) : Int)) = true := by rw [huv]; simp
                gi_wp2
                (try simp only [List.append])
                refine wpIn_region_quiet_lit rfl (by kernel_rfl) (by kernel_rfl) ?_
                repeat (gi_big_quiet_step (fail))
                refine wpQuietIn_nil ?_
                intro _ hw'
                obtain ⟨nq, hw''⟩ := hw'
                subst hw''
                have hD := hJ k _ _ none hJs (grown_draws _ nq none) (fun r e => by cases e)
                replace x0 : Boxed (wq.drewN nq) Bo 28 (.slice ao b.length co) := x0
                replace x1 : Boxed (wq.drewN nq) Bb 22 (.slice ab b.length cb) := x1
                replace x2 := rdDraws x2 nq
                replace x3 := rdDraws x3 nq
                replace og := ownDraws og nq
                gi_wp2
                go_roundw
                case rel => exact ⟨m + 1, by simp, hD, x0, x1, x2, x3, og, by have := HX.out; omega, Lib.hid fun s hs' => by
                  by_cases e : s = m
                  · rw [e, HX.out, HY.out, onB_iff]
                    exact ⟨h1, h2, UInt8.toNat_inj.1 (by rw [HC1.out, HC2.out, huv])⟩
                  · exact hs.out s (by omega)⟩
                case measure => simp [intOf]; omega
              · have t3 : (((c1 : Nat) : Int) == ((c2 : Nat) : Int)) = false := by rw [beq_eq_false_iff_ne]; omega
                gi_wp2
                (try simp only [List.append])
                refine wpIn_region_quiet_lit rfl (by kernel_rfl) (by kernel_rfl) ?_
                repeat (gi_big_quiet_step (fail))
                refine wpQuietIn_nil ?_
                intro _ hw'
                obtain ⟨nq, hw''⟩ := hw'
                subst hw''
                have hD := hJ k _ _ none hJs (grown_draws _ nq none) (fun r e => by cases e)
                replace x0 : Boxed (wq.drewN nq) Bo 28 (.slice ao b.length co) := x0
                replace x1 : Boxed (wq.drewN nq) Bb 22 (.slice ab b.length cb) := x1
                replace x2 := rdDraws x2 nq
                replace x3 := rdDraws x3 nq
                replace og := ownDraws og nq
                have hh : hgt b o p = m := by
                  rw [hgt, if_neg hp0, hp2, HU.out]
                  exact (Com.symm ⟨hs.out, by rw [HX.out, HY.out, Bool.eq_false_iff]; intro h; exact huv (by rw [← HC1.out, ← HC2.out, ((onB_iff _ _ _).1 h).2.2])⟩).eq
                have hmx : (if (0 : Int) < (m : Int) - 1 then (m : Int) - 1 else 0) = ((m - 1 : Nat) : Int) := by split <;> omega
                have hpb : p < b.length := hp1
                have hmw : IntKind.i64.wrap ((m : Int) - 1) = (m : Int) - 1 := IntWalk.i64_in _ (by omega)
                obtain ⟨fn, tmps, assign, body, hy, hR⟩ := hY k _ hD hlt
                dsimp only [htE] at hy
                rw [HPK.out, hh] at hy
                skip
                have HK := Lib.hid (kasai HO.out hpb (q := atN pl (k + 1)))
                gi_wp2
                refine hR.mono ?_
                rintro e W3 (⟨rfl, hJ3, hk3⟩ | ⟨rfl, hJx3⟩)
                · have y0 : Boxed W3 Bo 28 (.slice ao b.length co) := (hk3 Bo (.inl rfl)).trans x0
                  have y1 : Boxed W3 Bb 22 (.slice ab b.length cb) := (hk3 Bb (.inr (.inl rfl))).trans x1
                  have y2 := x2.keep (w' := W3) fun a ha => hk3 a.block (.inr (.inr (.inl ⟨by omega, a, ha, rfl⟩)))
                  have y3 := x3.keep (w' := W3) fun a ha => hk3 a.block (.inr (.inr (.inr (.inl ⟨by omega, a, ha, rfl⟩))))
                  have y4 := og.keep (w' := W3) fun x hx => by cases hx; exact hk3 g (.inr (.inr (.inr (.inr (by have := hg.1; omega)))))
                  gi_wp2
                  go_roundw
                  case rel => exact ⟨k + 1, m - 1, by omega, by simp; split <;> omega, by simp, hJ3, y0, y1, y2, y3, y4, by omega, Lib.hid fun h1 h2 => by
                    obtain ⟨q1, q2⟩ := HAT.out (k + 1) h1
                    have := HK.out q1 (by rw [q2, hp2]) h2
                    rw [hh] at this; exact this⟩
                  case measure => simp [intOf]; omega
                · gi_wp2
                  refine bodyPost_ret (results_none rfl _ _ _) rfl ?_
                  exact ⟨⟨_, rfl⟩, .inr ⟨_, by omega, hJx3⟩⟩
            · have t2 : decide ((y : Int) < (b.length : Int)) = false := deF (by omega)
              gi_wp2
              (try simp only [List.append])
              refine wpIn_region_quiet_lit rfl (by kernel_rfl) (by kernel_rfl) ?_
              repeat (gi_big_quiet_step (fail))
              refine wpQuietIn_nil ?_
              intro _ hw'
              obtain ⟨nq, hw''⟩ := hw'
              subst hw''
              have hD := hJ k _ _ none hJs (grown_draws _ nq none) (fun r e => by cases e)
              replace x0 : Boxed (wq.drewN nq) Bo 28 (.slice ao b.length co) := x0
              replace x1 : Boxed (wq.drewN nq) Bb 22 (.slice ab b.length cb) := x1
              replace x2 := rdDraws x2 nq
              replace x3 := rdDraws x3 nq
              replace og := ownDraws og nq
              have hh : hgt b o p = m := by
                rw [hgt, if_neg hp0, hp2, HU.out]
                exact (Com.symm ⟨hs.out, by rw [HX.out, HY.out, Bool.eq_false_iff]; intro h; exact h2 ((onB_iff _ _ _).1 h).2.1⟩).eq
              have hmx : (if (0 : Int) < (m : Int) - 1 then (m : Int) - 1 else 0) = ((m - 1 : Nat) : Int) := by split <;> omega
              have hpb : p < b.length := hp1
              have hmw : IntKind.i64.wrap ((m : Int) - 1) = (m : Int) - 1 := IntWalk.i64_in _ (by omega)
              obtain ⟨fn, tmps, assign, body, hy, hR⟩ := hY k _ hD hlt
              dsimp only [htE] at hy
              rw [HPK.out, hh] at hy
              skip
              have HK := Lib.hid (kasai HO.out hpb (q := atN pl (k + 1)))
              gi_wp2
              refine hR.mono ?_
              rintro e W3 (⟨rfl, hJ3, hk3⟩ | ⟨rfl, hJx3⟩)
              · have y0 : Boxed W3 Bo 28 (.slice ao b.length co) := (hk3 Bo (.inl rfl)).trans x0
                have y1 : Boxed W3 Bb 22 (.slice ab b.length cb) := (hk3 Bb (.inr (.inl rfl))).trans x1
                have y2 := x2.keep (w' := W3) fun a ha => hk3 a.block (.inr (.inr (.inl ⟨by omega, a, ha, rfl⟩)))
                have y3 := x3.keep (w' := W3) fun a ha => hk3 a.block (.inr (.inr (.inr (.inl ⟨by omega, a, ha, rfl⟩))))
                have y4 := og.keep (w' := W3) fun x hx => by cases hx; exact hk3 g (.inr (.inr (.inr (.inr (by have := hg.1; omega)))))
                gi_wp2
                go_roundw
                case rel => exact ⟨k + 1, m - 1, by omega, by simp; split <;> omega, by simp, hJ3, y0, y1, y2, y3, y4, by omega, Lib.hid fun h1 h2 => by
                  obtain ⟨q1, q2⟩ := HAT.out (k + 1) h1
                  have := HK.out q1 (by rw [q2, hp2]) h2
                  rw [hh] at this; exact this⟩
                case measure => simp [intOf]; omega
              · gi_wp2
                refine bodyPost_ret (results_none rfl _ _ _) rfl ?_
                exact ⟨⟨_, rfl⟩, .inr ⟨_, by omega, hJx3⟩⟩
          · have t1 : decide ((x : Int) < (b.length : Int)) = false := deF (by omega)
            gi_wp2
            (try simp only [List.append])
            refine wpIn_region_quiet_lit rfl (by kernel_rfl) (by kernel_rfl) ?_
            repeat (gi_big_quiet_step (fail))
            refine wpQuietIn_nil ?_
            intro _ hw'
            obtain ⟨nq, hw''⟩ := hw'
            subst hw''
            have hD := hJ k _ _ none hJs (grown_draws _ nq none) (fun r e => by cases e)
            replace x0 : Boxed (wq.drewN nq) Bo 28 (.slice ao b.length co) := x0
            replace x1 : Boxed (wq.drewN nq) Bb 22 (.slice ab b.length cb) := x1
            replace x2 := rdDraws x2 nq
            replace x3 := rdDraws x3 nq
            replace og := ownDraws og nq
            have hh : hgt b o p = m := by
              rw [hgt, if_neg hp0, hp2, HU.out]
              exact (Com.symm ⟨hs.out, by rw [HX.out, HY.out, Bool.eq_false_iff]; intro h; exact h1 ((onB_iff _ _ _).1 h).1⟩).eq
            have hmx : (if (0 : Int) < (m : Int) - 1 then (m : Int) - 1 else 0) = ((m - 1 : Nat) : Int) := by split <;> omega
            have hpb : p < b.length := hp1
            have hmw : IntKind.i64.wrap ((m : Int) - 1) = (m : Int) - 1 := IntWalk.i64_in _ (by omega)
            obtain ⟨fn, tmps, assign, body, hy, hR⟩ := hY k _ hD hlt
            dsimp only [htE] at hy
            rw [HPK.out, hh] at hy
            skip
            have HK := Lib.hid (kasai HO.out hpb (q := atN pl (k + 1)))
            gi_wp2
            refine hR.mono ?_
            rintro e W3 (⟨rfl, hJ3, hk3⟩ | ⟨rfl, hJx3⟩)
            · have y0 : Boxed W3 Bo 28 (.slice ao b.length co) := (hk3 Bo (.inl rfl)).trans x0
              have y1 : Boxed W3 Bb 22 (.slice ab b.length cb) := (hk3 Bb (.inr (.inl rfl))).trans x1
              have y2 := x2.keep (w' := W3) fun a ha => hk3 a.block (.inr (.inr (.inl ⟨by omega, a, ha, rfl⟩)))
              have y3 := x3.keep (w' := W3) fun a ha => hk3 a.block (.inr (.inr (.inr (.inl ⟨by omega, a, ha, rfl⟩))))
              have y4 := og.keep (w' := W3) fun x hx => by cases hx; exact hk3 g (.inr (.inr (.inr (.inr (by have := hg.1; omega)))))
              gi_wp2
              go_roundw
              case rel => exact ⟨k + 1, m - 1, by omega, by simp; split <;> omega, by simp, hJ3, y0, y1, y2, y3, y4, by omega, Lib.hid fun h1 h2 => by
                obtain ⟨q1, q2⟩ := HAT.out (k + 1) h1
                have := HK.out q1 (by rw [q2, hp2]) h2
                rw [hh] at this; exact this⟩
              case measure => simp [intOf]; omega
            · gi_wp2
              refine bodyPost_ret (results_none rfl _ _ _) rfl ?_
              exact ⟨⟨_, rfl⟩, .inr ⟨_, by omega, hJx3⟩⟩
    · obtain rfl : k = b.length := by omega
      gi_wp2
      go_end0
      exact ⟨⟨_, rfl⟩, .inl hJs⟩

theorem heights_any (w : World) (ab ao : Option Addr) (n cb m co : Nat) :
    Calls Try.prog 31 #[.slice ab n cb, .slice ao m co] w fun e w' => e = .returned (.func (.func 43) #[] #[.pointer (some ⟨w.heap.size + 1, 0, none⟩), .pointer (some ⟨w.heap.size, 0, none⟩)]) ∧ (w.alloc (.cells #[.slice ab n cb] 22)).alloc (.cells #[.slice ao m co] 28) = w' := by
  go_enter Try.func31, Try.ntmps31
  go_wp2
  go_ret
  exact ⟨rfl, rfl⟩

def hmine (n Bo Bb M : Nat) (ab ao : Option Addr) (r : Nat) : Prop := r = Bo ∨ r = Bb ∨ (0 < n ∧ ∃ a, ab = some a ∧ r = a.block) ∨ (0 < n ∧ ∃ a, ao = some a ∧ r = a.block) ∨ M ≤ r
theorem heights_seq (m Bo Bb M : Nat) (hm : 1 ≤ m) (n : Nat) (b : List UInt8) (o pl : List Nat) (hn : n ≤ 100000) (ab ao : Option Addr) (cb co : Nat) (hl : b.length = n) (ho : Ordered b false o) (hpl : Inv (o.map fun c : Nat => (c : Int)) pl)
    (w : World) (hM : M = w.heap.size + 2) (hBo : Boxed w Bo 28 (.slice ao n co)) (hBb : Boxed w Bb 22 (.slice ab n cb)) (hrb : Rd w 1 ab n cb (B8 b)) (hro : Rd w 1 ao n co (N64 o)) :
    SeqN Fence.wide m Try.prog 43 #[.pointer (some ⟨Bo, 0, none⟩), .pointer (some ⟨Bb, 0, none⟩)] (htE b o pl) (hmine n Bo Bb M ab ao) (fun _ => False) n w :=
  fun l J Jx W hW hsz hJ _ hY h0 => heights1_in m l Bo Bb M hm n b o pl hn ab ao cb co hl ho hpl J Jx hJ hY W (by omega) ((hW.block _ hBo.lt).trans hBo) ((hW.block _ hBb.lt).trans hBb) (hrb.below hW) (hro.below hW) h0

/-- the rows filled by the order: what is in place when k places have come -/
def filled (b : List UInt8) (o pl : List Nat) (k : Nat) : List Nat := rowN (fun p => if atN o p < k then hgt b o p else 0) b.length
theorem filled_step {b : List UInt8} {o pl : List Nat} {k p : Nat} (ho : Ordered b false o) (hp : p < b.length) (hop : atN o p = k) : (filled b o pl k).set p (hgt b o p) = filled b o pl (k + 1) :=
  rowN_set _ _ _ _ _ fun q hq => by
    by_cases e : q = p
    · subst e; simp [hop]
    · have : atN o q ≠ k := fun e2 => e (ho.ord.inj hq hp (by rw [e2, hop]))
      by_cases h : atN o q < k
      · simp [e, h, Nat.lt_succ_of_lt h]
      · have : ¬ atN o q < k + 1 := by omega
        simp [e, h, this]

end Go.Proofs.Ytnlemaaglbbdnaa
