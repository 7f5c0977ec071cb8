/- TokenExpands. -/
import Derived.Test.YtlmpooibpopcaaaTokL5
import Derived.Laws.StructEq
import Derived.Deep.Slices
import Derived.Test.YtlmpooibpopcaaaOpen
namespace Go.Proofs.Ytlmpooibpopcaaa
set_option linter.unusedSimpArgs false
set_option linter.unusedVariables false
open Go.RowKit Go.Shelf
attribute [local go_sem] Oper.semAt_some

theorem eq_tok (w : World) (a b c : Int) : (Op.equalIn 10000 28 (.agg #[.int .i64 a, .int .i64 b, .int .u8 c]) (.agg #[.int .i64 a, .int .i64 b, .int .u8 c])).run Try.prog w = .ok true w := by
  have u3 := Try.underlying3
  have u5 := Try.underlying5
  have a3 := Try.isAgg3
  have a5 := Try.isAgg5
  rw [show (10000 : Nat) = 9999 + 1 from rfl, run_equalIn_struct w 9999 28 _ _ (by kernel_rfl) (by kernel_rfl)]
  rw [show (Try.prog.fieldsOf 28).toList = [(Try.prog.fieldsOf 28)[0]!, (Try.prog.fieldsOf 28)[1]!, (Try.prog.fieldsOf 28)[2]!] by kernel_rfl]
  have t0 : ((Try.prog.fieldsOf 28)[0]!).type = 3 := by kernel_rfl
  have t1 : ((Try.prog.fieldsOf 28)[1]!).type = 3 := by kernel_rfl
  have t2 : ((Try.prog.fieldsOf 28)[2]!).type = 5 := by kernel_rfl
  have o0 : ((Try.prog.fieldsOf 28)[0]!).offset = 0 := by kernel_rfl
  have o1 : ((Try.prog.fieldsOf 28)[1]!).offset = 1 := by kernel_rfl
  have o2 : ((Try.prog.fieldsOf 28)[2]!).offset = 2 := by kernel_rfl
  have n0 : ((Try.prog.fieldsOf 28)[0]!).name ≠ "_" := by decide +kernel
  have n1 : ((Try.prog.fieldsOf 28)[1]!).name ≠ "_" := by decide +kernel
  have n2 : ((Try.prog.fieldsOf 28)[2]!).name ≠ "_" := by decide +kernel
  generalize (Try.prog.fieldsOf 28)[0]! = f0 at *
  generalize (Try.prog.fieldsOf 28)[1]! = f1 at *
  generalize (Try.prog.fieldsOf 28)[2]! = f2 at *
  simp only [Op.eqFields, t0, t1, t2, o0, o1, o2, if_pos n0, if_pos n1, if_pos n2]
  go_simp
theorem neq_tok (w : World) (a b c : Int) : (binOp .neq 28 (.agg #[.int .i64 a, .int .i64 b, .int .u8 c]) (.agg #[.int .i64 a, .int .i64 b, .int .u8 c])).run Try.prog w = .ok (.bool false) w := by
  rw [run_neq_struct, eq_tok]; rfl

set_option maxRecDepth 100000 in
set_option maxHeartbeats 4000000 in
theorem tokenExpands_law (w : World) (ad : Option Addr) (n cap : Nat) (ts : List Tok) (hx : Rd w 3 ad n cap (T3 ts)) :
    Calls Try.prog 3 #[.slice ad n cap] w fun e w' => e = .returned (.bool true) ∧ Below w.heap.size w w' := by
  go_enter Try.func3, Try.ntmps3
  by_cases hn : 400 < n
  · go_wp2_with fail
    go_ret
    exact ⟨rfl, Below.refl _ _⟩
  · go_wp2_with (refine wpList_clone rfl _ _ _ rfl tT rfl rfl hx (by unfold maxLen; omega) (by omega) ?_; intro a1 k1 w1 o1 b1 s1)
    refine (expand_law w1 a1 n k1 ts o1.rd (by omega)).mono ?_
    intro e w2 h2
    unfold ExpPost at h2
    obtain ⟨a2, k2, rfl, o2, b2⟩ := h2
    have c2 := b1.trans (b2.mono b1.size)
    go_wp2_with fail
    refine (refExpand_law w2 ad n cap ts (hx.below c2) (by omega)).mono ?_
    intro e w3 h3
    unfold ExpPost at h3
    obtain ⟨a3, k3, rfl, o3, b3⟩ := h3
    have c3 := c2.trans (b3.mono c2.size)
    have r1 := (o1.rd.below b2).below b3
    have r2 := o2.rd.below b3
    have r3 := o3.rd
    have rx := hx.below c3
    clear o1 o2 o3 b1 b2 b3 c2 s1 hx
    generalize (expand ts).1 = ob at *
    generalize (expand ts).2 = re at *
    go_wp2_with fail
    go_loopg [8] n (fun k i wr => ∃ (j : Nat), j ≤ n ∧ k = n - j ∧ i = .int .i64 j ∧ Below w3.heap.size w3 wr)
    case atStart => exact ⟨0, Nat.zero_le _, by simp, rfl, Below.refl _ _⟩
    case round =>
      obtain ⟨j, hj, rfl, rfl, b4⟩ := hrel
      rename World => wr
      by_cases hlt : j < n
      · obtain ⟨t, ht, nx, e0, e1, e2⟩ := (rx.below b4).tok hlt
        obtain ⟨t', ht', nx', d0, d1, d2⟩ := (r1.below b4).tok hlt
        rw [ht] at ht'; cases ht'
        obtain ⟨l, d, b⟩ := t
        simp only at e0 e1 e2 d0 d1 d2
        have hne := fun k => neq_tok (wr.drewN k) l d (b.toNat : Int)
        go_wp2_with fail
        (try simp only [List.append])
        refine wp_region_quiet_lit (by kernel_rfl) (by kernel_rfl) ?_
        repeat (go_big_quiet_step (fail))
        refine wpQuiet_nil ?_
        intro _ hw'
        obtain ⟨nq, hw''⟩ := hw'
        subst hw''
        go_wp2_with fail
        go_roundg (n - (j + 1))
        case measure => omega
        case rel => exact ⟨j + 1, by omega, rfl, by simp, bDraws b4 nq⟩
      · obtain rfl : j = n := by omega
        have s2 := rstr (r2.below b4)
        have s3 := rstr (r3.below b4)
        have c4 := c3.trans (b4.mono c3.size)
        clear r1 r2 r3 rx b4 c3
        go_wp2_with fail
        refine (says_any wr).mono ?_
        rintro e w9 ⟨rfl, b9⟩
        go_wp2_with fail
        go_ret
        exact ⟨rfl, c4.trans (b9.mono c4.size)⟩

instance : Inhabited Tok := ⟨⟨0, 0, 0⟩⟩
open Go.Deep in
/-- a slice of tokens that came in -/
theorem tok_open {H : Type} {enc : TypeId × Value → H} {w : World} {base : Nat} {spare : Nat → Bool} {held : Bool} {fuel : Nat} {cs : List Value} {x : DataW H × List MemPlace} (h : DataW.trod enc Try.prog w base spare held fuel 22 cs = some x) :
    ∃ (a : Option Addr) (len cap : Nat) (ts : List Tok), cs = [.slice a len cap] ∧ Rd w 3 a len cap (T3 ts) := by
  rcases open_slice Try.underlying22 h with ⟨rfl, _⟩ | ⟨a, len, cap, m, n, D, Pl, rfl, hb, hl, hm, hmm, rfl, hx⟩
  · exact ⟨none, 0, 0, [], rfl, rfl, Nat.le_refl _, Nat.zero_le _, fun _ => rfl, by simp [T3], fun a ha => (by cases ha)⟩
  have hlm : len ≤ m := by rw [hmm]; split <;> omega
  have ce : Try.prog.cellsOf 28 = 3 := by kernel_rfl
  have hs : Try.prog.underlying 28 = some (.struct (Try.prog.fieldsOf 28)) := by kernel_rfl
  have t0 : ((Try.prog.fieldsOf 28)[0]?).map (fun f => (f.type, f.offset)) = some (3, 0) := by kernel_rfl
  have t1 : ((Try.prog.fieldsOf 28)[1]?).map (fun f => (f.type, f.offset)) = some (3, 1) := by kernel_rfl
  have t2 : ((Try.prog.fieldsOf 28)[2]?).map (fun f => (f.type, f.offset)) = some (5, 2) := by kernel_rfl
  have z3 : Try.prog.cellsOf 3 = 1 := by kernel_rfl
  have z5 : Try.prog.cellsOf 5 = 1 := by kernel_rfl
  have hsz : (Try.prog.fieldsOf 28).size = 3 := by kernel_rfl
  generalize Try.prog.fieldsOf 28 = fs at *
  obtain ⟨f0, h0, g0⟩ := Option.map_eq_some_iff.1 t0
  obtain ⟨f1, h1, g1⟩ := Option.map_eq_some_iff.1 t1
  obtain ⟨f2, h2, g2⟩ := Option.map_eq_some_iff.1 t2
  simp only [Prod.mk.injEq] at g0 g1 g2
  have each : ∀ i, i < len → ∃ t : Tok, w.cell? (a.add (i * 3)) = some (.int .i64 t.len) ∧ w.cell? (a.add (i * 3 + 1)) = some (.int .i64 t.dist) ∧ w.cell? (a.add (i * 3 + 2)) = some (.int .u8 (t.byte.toNat : Int)) := by
    intro i hi
    obtain ⟨cs', c1, c2⟩ := hx i (by omega)
    rw [ce] at c1
    obtain ⟨_, hlen, hcell⟩ := World.cells?_some c1
    obtain ⟨xs, k, _, _, _, hxl, hf⟩ := DataW.trod_struct hs c2
    rw [hsz] at hxl
    match xs, hxl, cs', hlen with
    | [y0, y1, y2], _, [v0, v1, v2], _ =>
      have p0 := hf 0 f0 h0
      have p1 := hf 1 f1 h1
      have p2 := hf 2 f2 h2
      simp [g0.1, g0.2, g1.1, g1.2, g2.1, g2.2, z3, z5] at p0 p1 p2
      have e0 := hcell 0 (by omega)
      have e1 := hcell 1 (by omega)
      have e2 := hcell 2 (by omega)
      rw [add_add] at e0 e1 e2
      obtain ⟨q0, r0, _, _⟩ := DataW.trod_int Try.underlying3 p0
      obtain ⟨q1, r1, _, _⟩ := DataW.trod_int Try.underlying3 p1
      obtain ⟨q2, r2, _, w2⟩ := DataW.trod_int Try.underlying5 p2
      simp at r0 r1 r2
      subst r0 r1 r2
      obtain ⟨u, rfl⟩ := wf_u8 w2
      exact ⟨⟨q0, q1, u⟩, by simpa using e0, by simpa using e1, by simpa using e2⟩
  obtain ⟨q, hq⟩ := choose_lt each
  have hts : ((List.range len).map q).length = len := by simp
  refine ⟨some a, len, cap, (List.range len).map q, rfl, by rw [T3_len, hts], hl, hm, fun e => (by cases e), T3_one _, fun b hb j u hu => ?_⟩
  cases hb
  have hj : j < len * 3 := by have := (List.getElem?_eq_some_iff.1 hu).1; rw [T3_len, hts] at this; exact this
  have hk : j / 3 < len := by omega
  obtain ⟨v0, v1, v2⟩ := T3_get ((List.range len).map q) (j / 3) (q (j / 3)) (by simp [hk])
  obtain ⟨e0, e1, e2⟩ := hq (j / 3) hk
  rcases (show j = j / 3 * 3 ∨ j = j / 3 * 3 + 1 ∨ j = j / 3 * 3 + 2 by omega) with h | h | h
  · rw [h, v0] at hu; rw [h, e0]; exact hu
  · rw [h, v1] at hu; rw [h, e1]; exact hu
  · rw [h, v2] at hu; rw [h, e2]; exact hu
end Go.Proofs.Ytlmpooibpopcaaa
