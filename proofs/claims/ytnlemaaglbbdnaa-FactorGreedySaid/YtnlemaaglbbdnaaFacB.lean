/- factor.index's neighbours: the iterator. -/
import Derived.Test.YtnlemaaglbbdnaaFacA
import Derived.Test.YtnlemaaglbbdnaaLcpD
namespace Go.Proofs.Ytnlemaaglbbdnaa
set_option linter.unusedSimpArgs false
set_option linter.unusedVariables false
open Go.RowKit Go.Shelf
attribute [local go_sem] Oper.semAt_some

/-- one side of a place in the order: which neighbours, at which heights -/
structure NbOk (b : List UInt8) (o : List Nat) (n p : Nat) (st : Int) (N : Nat) (f : Nat → Nat × Nat) (pos hx : Nat → Nat) (Z : Nat → Int) : Prop where
  z0 : (p : Int) + st = Z 0
  zs : ∀ k, k < N → Z k + st = Z (k + 1)
  zp : ∀ k, k < N → Z k = (pos k : Int)
  pn : ∀ k, k < N → pos k < n ∧ hx k < n
  mx : ∀ k, k < N → (if Z k < Z k - st then Z k - st else Z k) = (hx k : Int)
  zN : Z N < 0 ∨ (n : Int) ≤ Z N
  zb : ∀ k, k ≤ N → -1 ≤ Z k ∧ Z k ≤ (n : Int)
  sb : st = -1 ∨ st = 1
  f1 : ∀ k, k < N → (f k).1 = atN o (pos k)
  f0 : 0 < N → min n (hgt b o (hx 0)) = (f 0).2
  fs : ∀ k, k + 1 < N → min (f k).2 (hgt b o (hx (k + 1))) = (f (k + 1)).2
  fb : ∀ k, (f k).2 ≤ n
theorem nbL_ok {b : List UInt8} {o : List Nat} (ho : Ordered b false o) {n p : Nat} (hn : b.length = n) (hp : p < n) : NbOk b o n p (-1) p (nbL b o p) (fun k => p - 1 - k) (fun k => p - k) (fun k => (p : Int) - 1 - k) := by
  subst hn
  refine ⟨by simp; omega, fun k h => by simp; omega, fun k h => by (try dsimp only); omega, fun k h => by (try dsimp only); omega, fun k h => by (try dsimp only); rw [if_pos (by omega)]; omega, by left; omega, fun k h => by (try dsimp only); omega, by decide, fun k h => rfl, fun h => ?_, fun k h => ?_, fun k => com_le _ _ _⟩
  · show min b.length (hgt b o (p - 0)) = com b (atN o (p - 1 - 0)) (atN o p)
    rw [Nat.sub_zero, Nat.sub_zero, hgt, if_neg (by omega)]
    have := com_le b (atN o (p - 1)) (atN o p); omega
  · show min (com b (atN o (p - 1 - k)) (atN o p)) (hgt b o (p - (k + 1))) = com b (atN o (p - 1 - (k + 1))) (atN o p)
    rw [hgt, if_neg (by omega), com_min ho (p := p - 1 - (k + 1)) (q := p - 1 - k) (r := p) (by omega) (by omega) hp, show p - (k + 1) - 1 = p - 1 - (k + 1) by omega, show p - (k + 1) = p - 1 - k by omega, Nat.min_comm]
theorem nbR_ok {b : List UInt8} {o : List Nat} (ho : Ordered b false o) {n p : Nat} (hn : b.length = n) (hp : p < n) : NbOk b o n p 1 (n - 1 - p) (nbR b o p) (fun k => p + 1 + k) (fun k => p + 1 + k) (fun k => (p : Int) + 1 + k) := by
  subst hn
  refine ⟨by simp, fun k h => by simp; omega, fun k h => by simp, fun k h => by (try dsimp only); omega, fun k h => by (try dsimp only); rw [if_neg (by omega)]; simp, by right; omega, fun k h => by (try dsimp only); omega, by decide, fun k h => rfl, fun h => ?_, fun k h => ?_, fun k => com_le _ _ _⟩
  · show min b.length (hgt b o (p + 1 + 0)) = com b (atN o p) (atN o (p + 1 + 0))
    rw [Nat.add_zero, hgt, if_neg (by omega), Nat.add_sub_cancel]
    have := com_le b (atN o p) (atN o (p + 1)); omega
  · show min (com b (atN o p) (atN o (p + 1 + k))) (hgt b o (p + 1 + (k + 1))) = com b (atN o p) (atN o (p + 1 + (k + 1)))
    rw [hgt, if_neg (by omega), com_min ho (p := p) (q := p + 1 + k) (r := p + 1 + (k + 1)) (by omega) (by omega) (by omega), show p + 1 + (k + 1) - 1 = p + 1 + k by omega]

/-- the index of a text -/
structure Idx (w : World) (X n : Nat) (ab : Option Addr) (cb g1 g2 g3 g4 g5 : Nat) (b : List UInt8) (o pl : List Nat) : Prop where
  hx : w.heap[X]? = some (.cells #[.slice ab n cb, .slice (some ⟨g1, 0, none⟩) n n, .slice (some ⟨g2, 0, none⟩) n n, .slice (some ⟨g3, 0, none⟩) n n, .slice (some ⟨g4, 0, none⟩) n n, .slice (some ⟨g5, 0, none⟩) n n] 48 (0, 0))
  rb : Rd w 1 ab n cb (B8 b)
  ro : Rd w 1 (some ⟨g1, 0, none⟩) n n (N64 o)
  rp : Rd w 1 (some ⟨g2, 0, none⟩) n n (N64 pl)
  rh : Rd w 1 (some ⟨g3, 0, none⟩) n n (N64 (hgtL b o))
  ru : Rd w 1 (some ⟨g4, 0, none⟩) n n (I64 (refAhead (oI o) n))
  rd : Rd w 1 (some ⟨g5, 0, none⟩) n n (I64 (refBehind (oI o) n))
theorem six {w : World} {g : Nat} {t : TypeId} {a b c d e f : Value} (hg : w.heap[g]? = some (.cells #[a, b, c, d, e, f] t (0, 0))) :
    w.cell? ⟨g, 0, none⟩ = some a ∧ w.cell? ⟨g, 1, none⟩ = some b ∧ w.cell? ⟨g, 2, none⟩ = some c ∧ w.cell? ⟨g, 3, none⟩ = some d ∧ w.cell? ⟨g, 4, none⟩ = some e ∧ w.cell? ⟨g, 5, none⟩ = some f := by
  simp [World.cell?, hg]
theorem Idx.below {w w' : World} {X n : Nat} {ab : Option Addr} {cb g1 g2 g3 g4 g5 : Nat} {b : List UInt8} {o pl : List Nat} (h : Idx w X n ab cb g1 g2 g3 g4 g5 b o pl) (hb : Below w.heap.size w w') : Idx w' X n ab cb g1 g2 g3 g4 g5 b o pl :=
  ⟨(hb.block X (Array.getElem?_eq_some_iff.1 h.hx).1).trans h.hx, h.rb.below hb, h.ro.below hb, h.rp.below hb, h.rh.below hb, h.ru.below hb, h.rd.below hb⟩

def nbE (f : Nat → Nat × Nat) (k : Nat) : Array Value := #[.int .i64 (((f k).1 : Nat) : Int), .int .i64 (((f k).2 : Nat) : Int)]
def nmine (Bx Bs X g1 g3 r : Nat) : Prop := r = Bx ∨ r = Bs ∨ r = X ∨ r = g1 ∨ r = g3

set_option maxRecDepth 100000 in
set_option maxHeartbeats 4000000 in
theorem nb_in (m l Bx Bp Bs X g1 g2 g3 g4 g5 : Nat) (hm : 1 ≤ m) (n : Nat) (b : List UInt8) (o pl : List Nat) (hn : n ≤ 100000) (ab : Option Addr) (cb : Nat) (hl : b.length = n)
    (p : Nat) (hp : p < n) (st : Int) (N : Nat) (hN : N ≤ n) (f : Nat → Nat × Nat) (pos hx : Nat → Nat) (Z : Nat → Int) (hk : NbOk b o n p st N f pos hx Z)
    (J Jx : Nat → World → Prop) (hJ : AbW (fun _ => False) J)
    (hY : ∀ k W1, J k W1 → k < N → YieldAt Fence.wide (m - 1) Try.prog l (nbE f k) W1 fun e W' =>
      (e = .returned (.bool true) ∧ J (k + 1) W' ∧ KeepB (nmine Bx Bs X g1 g3) W1 W') ∨ (e = .returned (.bool false) ∧ Jx (k + 1) W'))
    (W : World) (hBx : Boxed W Bx 40 (.pointer (some ⟨X, 0, none⟩))) (hBp : Boxed W Bp 3 (.int .i64 (p : Int))) (hBs : Boxed W Bs 3 (.int .i64 st)) (hX : Idx W X n ab cb g1 g2 g3 g4 g5 b o pl) (h0 : J 0 W) :
    CallsIn Fence.wide m Try.prog 37 #[.func (.yield l) #[] #[], .pointer (some ⟨Bx, 0, none⟩), .pointer (some ⟨Bp, 0, none⟩), .pointer (some ⟨Bs, 0, none⟩)] W fun e W' => (∃ v, e = .returned v) ∧
      (J N W' ∨ ∃ k, k ≤ N ∧ Jx k W') := by
  subst hl
  refine callsIn_of_wp Try.func37 rfl trivial ?_ rfl
  simp only [Try.ntmps37, List.size_toArray, List.length_cons, List.length_nil, Nat.reduceAdd, Nat.reduceSub, Array.replicate_succ, Array.replicate_zero, List.push_toArray, List.append_toArray, List.nil_append, List.cons_append]
  obtain ⟨x0, x1, _, x3, _, _⟩ := six hX.hx
  have c1 := hBx.cell
  have c2 := hBp.cell
  have c3 := hBs.cell
  have hXX := hX.hx
  have ro := hX.ro
  have rh := hX.rh
  have z0 := hk.z0
  have sb := hk.sb
  have zb0 := hk.zb 0 (Nat.zero_le _)
  have w0 : IntKind.i64.wrap (Z 0) = Z 0 := IntWalk.i64_in _ (by omega)
  have HK := Lib.hid hk; clear hk
  clear hX sb zb0
  gi_wp2
  clear x0 x1 x3 c1 c2 c3 z0 w0
  gi_loopw [5, 6] (fun x i wr => ∃ k mm : Nat, k ≤ N ∧ x = .int .i64 (mm : Int) ∧ i = .int .i64 (Z k) ∧ J k wr ∧ Boxed wr Bx 40 (.pointer (some ⟨X, 0, none⟩)) ∧ Boxed wr Bs 3 (.int .i64 st) ∧
      wr.heap[X]? = some (.cells #[.slice ab b.length cb, .slice (some ⟨g1, 0, none⟩) b.length b.length, .slice (some ⟨g2, 0, none⟩) b.length b.length, .slice (some ⟨g3, 0, none⟩) b.length b.length, .slice (some ⟨g4, 0, none⟩) b.length b.length, .slice (some ⟨g5, 0, none⟩) b.length b.length] 48 (0, 0)) ∧
      Rd wr 1 (some ⟨g1, 0, none⟩) b.length b.length (N64 o) ∧ Rd wr 1 (some ⟨g3, 0, none⟩) b.length b.length (N64 (hgtL b o)) ∧ mm ≤ b.length ∧ Hid (k < N → min mm (hgt b o (hx k)) = (f k).2))
    (fun x i _ => if st = 1 then b.length - (intOf i).toNat else (intOf i + 1).toNat)
  case atStart => exact ⟨0, b.length, Nat.zero_le _, rfl, rfl, h0, hBx, hBs, hXX, ro, rh, Nat.le_refl _, Lib.hid HK.out.f0⟩
  case round =>
    clear h0 hBx hBs hBp hXX ro rh
    obtain ⟨k, mm, hkN, rfl, rfl, hJs, y1, y2, hXX, ro, rh, hmm, hmin⟩ := hrel
    rename World => wq
    obtain ⟨x0, x1, _, x3, _, _⟩ := six hXX
    have c1 := y1.cell
    have c2 := y2.cell
    by_cases hlt : k < N
    · obtain ⟨pn1, pn2⟩ := HK.out.pn k hlt
      have zp := HK.out.zp k hlt
      have mx := HK.out.mx k hlt
      have sb := HK.out.sb
      have zs := HK.out.zs k hlt
      have zb2 := HK.out.zb (k + 1) hlt
      have hf1 := HK.out.f1 k hlt
      have hmn := hmin.out hlt
      have hfb := HK.out.fb k
      rw [zp] at mx zs ⊢
      have wz : IntKind.i64.wrap (Z (k + 1)) = Z (k + 1) := IntWalk.i64_in _ (by omega)
      have wd : IntKind.i64.wrap ((pos k : Int) - st) = (pos k : Int) - st := IntWalk.i64_in _ (by omega)
      have WD := Lib.hid wd; clear wd
      have cq := (ro.getN pn1).2
      have ch := (rh.getN pn2).2
      rw [sAt_lit] at cq ch
      obtain ⟨F1, hF1⟩ : ∃ v, (f k).1 = v := ⟨_, rfl⟩
      obtain ⟨F2, hF2⟩ : ∃ v, (f k).2 = v := ⟨_, rfl⟩
      rw [← hf1, hF1] at cq
      rw [hgtL, atN_row _ _ _ pn2] at ch
      obtain ⟨hh, hhh⟩ : ∃ v, hgt b o (hx k) = v := ⟨_, rfl⟩
      rw [hhh] at ch hmn
      rw [hF2] at hmn hfb
      have hmn2 : (if hh < mm then (hh : Int) else (mm : Int)) = (F2 : Int) := by split <;> omega
      have HF1 := Lib.hid hF1; clear hF1
      have HF2 := Lib.hid hF2; clear hF2
      clear hf1 hmn hhh hmin hmm
      gi_wp2
      (try simp only [List.append])
      refine wpIn_region_quiet_lit rfl (by kernel_rfl) (by kernel_rfl) ?_
      repeat (gi_big_quiet_step (fail))
      refine wpQuietIn_nil ?_
      intro _ hw'
      obtain ⟨nq, hw''⟩ := hw'
      subst hw''
      have hD := hJ k _ _ none hJs (grown_draws _ nq none) (fun r e => by cases e)
      replace y1 : Boxed (wq.drewN nq) Bx 40 (.pointer (some ⟨X, 0, none⟩)) := y1
      replace y2 : Boxed (wq.drewN nq) Bs 3 (.int .i64 st) := y2
      replace hXX : (wq.drewN nq).heap[X]? = some (.cells #[.slice ab b.length cb, .slice (some ⟨g1, 0, none⟩) b.length b.length, .slice (some ⟨g2, 0, none⟩) b.length b.length, .slice (some ⟨g3, 0, none⟩) b.length b.length, .slice (some ⟨g4, 0, none⟩) b.length b.length, .slice (some ⟨g5, 0, none⟩) b.length b.length] 48 (0, 0)) := hXX
      replace ro := rdDraws ro nq
      replace rh := rdDraws rh nq
      replace cq : (wq.drewN nq).cell? ⟨g1, pos k, none⟩ = some (.int .i64 (F1 : Int)) := cq
      clear hJs x0 x1 x3 c1 c2 ch hmn2 mx
      generalize wq.drewN nq = W1 at *
      obtain ⟨x0, x1, _, x3, _, _⟩ := six hXX
      have c1 := y1.cell
      have c2 := y2.cell
      obtain ⟨fn, tmps, assign, body, hy, hR⟩ := hY k _ hD hlt
      dsimp only [nbE] at hy
      rw [HF1.out, HF2.out] at hy
      gi_wp2
      refine hR.mono ?_
      rintro e W3 (⟨rfl, hJ3, hk3⟩ | ⟨rfl, hJx3⟩)
      · have z1 : Boxed W3 Bx 40 (.pointer (some ⟨X, 0, none⟩)) := (hk3 Bx (.inl rfl)).trans y1
        have z2 : Boxed W3 Bs 3 (.int .i64 st) := (hk3 Bs (.inr (.inl rfl))).trans y2
        have zX := (hk3 X (.inr (.inr (.inl rfl)))).trans hXX
        have zo := ro.keep (w' := W3) fun a ha => by cases ha; exact hk3 g1 (.inr (.inr (.inr (.inl rfl))))
        have zh := rh.keep (w' := W3) fun a ha => by cases ha; exact hk3 g3 (.inr (.inr (.inr (.inr rfl))))
        have c3 := z2.cell
        clear y1 y2 hXX ro rh cq x0 x1 x3 c1 c2 hR hy
        gi_wp2
        go_roundw
        case rel => exact ⟨k + 1, F2, by omega, rfl, by first | rfl | rw [zs], hJ3, z1, z2, zX, zo, zh, hfb, Lib.hid (by rw [← HF2.out]; exact HK.out.fs k)⟩
        case measure =>
          simp only [intOf]
          rcases sb with sb | sb <;> simp [sb] <;> omega
      · gi_wp2
        refine bodyPost_ret (results_none rfl _ _ _) rfl ?_
        exact ⟨⟨_, rfl⟩, .inr ⟨_, by omega, hJx3⟩⟩
    · obtain rfl : k = N := by omega
      have zN := HK.out.zN
      have zb := HK.out.zb k (Nat.le_refl _)
      rcases zN with zN | zN
      · gi_wp2
        go_end0
        exact ⟨⟨_, rfl⟩, .inl hJs⟩
      · have zN0 : 0 ≤ Z k := by omega
        have zN1 : ¬ Z k < (b.length : Int) := by omega
        gi_wp2
        go_end0
        exact ⟨⟨_, rfl⟩, .inl hJs⟩
end Go.Proofs.Ytnlemaaglbbdnaa
