/- sufsort: pairs of ranks, in the worlds of a round. -/
import Derived.Test.YtjjdckbdjmbndaaSufD
import Derived.Laws.StructEq
namespace Go.Proofs.Ytjjdckbdjmbndaa
set_option linter.unusedSimpArgs false
set_option linter.unusedVariables false
open Go.RowKit

/-- a function's value, stored -/
@[go_sem] theorem run_store_func {P : Program} (w : World) (a : Addr) (m : Mode) (f : Fn) (bs lb : Array Value) : (store a (.func f bs lb) m).run P w = stored P w a (.func f bs lb) m := run_store P w a _ m rfl

/-- what the closure 'pair' reads -/
structure PEnv (W : World) (F N K T R n nf k : Nat) (lb : Array Value) (r : Nat → Nat) : Prop where
  f : W.cell? ⟨F, 0, none⟩ = some (.func (.func 26) #[] #[.pointer (some ⟨N, 0, none⟩), .pointer (some ⟨K, 0, none⟩), .pointer (some ⟨T, 0, none⟩)])
  nn : W.cell? ⟨N, 0, none⟩ = some (.func (.func nf) #[] lb)
  kk : W.cell? ⟨K, 0, none⟩ = some (.int .i64 (k : Int))
  tt : W.cell? ⟨T, 0, none⟩ = some (.slice (some ⟨R, 0, none⟩) n n)
  rr : ∀ j, j < n → W.cell? ⟨R, j, none⟩ = some (.int .i64 (r j : Int))

theorem cell_below {W W' : World} {a : Addr} {v : Value} (h : W.cell? a = some v) (hb : Below W.heap.size W W') : W'.cell? a = some v := by
  rw [hb.cell (p := a) (World.block_lt_of_cell? W a h)]; exact h

theorem PEnv.below {W W' : World} {F N K T R n nf k : Nat} {lb : Array Value} {r : Nat → Nat} (h : PEnv W F N K T R n nf k lb r) (hb : Below W.heap.size W W') : PEnv W' F N K T R n nf k lb r :=
  ⟨cell_below h.f hb, cell_below h.nn hb, cell_below h.kk hb, cell_below h.tt hb, fun j hj => cell_below (h.rr j hj) hb⟩
theorem PEnv.set {W : World} {F N K T R n nf k : Nat} {lb : Array Value} {r : Nat → Nat} (h : PEnv W F N K T R n nf k lb r) (p : Addr) (v : Value) (h1 : F ≠ p.block) (h2 : N ≠ p.block) (h3 : K ≠ p.block) (h4 : T ≠ p.block) (h5 : R ≠ p.block) : PEnv (W.setCell p v) F N K T R n nf k lb r :=
  have key : ∀ (b o : Nat) (u : Value), b ≠ p.block → W.cell? ⟨b, o, none⟩ = some u → (W.setCell p v).cell? ⟨b, o, none⟩ = some u := fun b o u hb hu => by
    rw [World.cell?_of_block (w := W) (Below.heap_setCell W p v b hb)]; exact hu
  ⟨key _ _ _ h1 h.f, key _ _ _ h2 h.nn, key _ _ _ h3 h.kk, key _ _ _ h4 h.tt, fun j hj => key _ _ _ h5 (h.rr j hj)⟩

theorem gSet {a w : World} {g : Nat} (h : a.grownBy w (some g)) (j : Nat) (v : Value) : a.grownBy (w.setCell ⟨g, j, none⟩ v) (some g) :=
  ⟨h.os, h.tape, h.output, by simpa [World.setCell] using h.size, fun i hi hne => (Below.heap_setCell w ⟨g, j, none⟩ v i (by rintro rfl; exact hne rfl)).trans (h.block i hi hne)⟩
theorem gBelow {a w w' : World} {row : Option Nat} (h : a.grownBy w row) (hb : Below w.heap.size w w') : a.grownBy w' row :=
  ⟨hb.os.trans h.os, hb.tape.trans h.tape, hb.output.trans h.output, Nat.le_trans h.size hb.size, fun i hi hne => (hb.block i (Nat.lt_of_lt_of_le hi h.size)).trans (h.block i hi hne)⟩
theorem PEnv.grown {W W' : World} {F N K T R n nf k g : Nat} {lb : Array Value} {r : Nat → Nat} (h : PEnv W F N K T R n nf k lb r) (hg : W.grownBy W' (some g)) (h1 : F ≠ g) (h2 : N ≠ g) (h3 : K ≠ g) (h4 : T ≠ g) (h5 : R ≠ g) : PEnv W' F N K T R n nf k lb r :=
  have key : ∀ (b o : Nat) (u : Value), b ≠ g → W.cell? ⟨b, o, none⟩ = some u → W'.cell? ⟨b, o, none⟩ = some u := fun b o u hb hu => by
    rw [World.cell?_of_block (w := W) (hg.block b (World.block_lt_of_cell? W _ hu) (by simpa using hb))]; exact hu
  ⟨key _ _ _ h1 h.f, key _ _ _ h2 h.nn, key _ _ _ h3 h.kk, key _ _ _ h4 h.tt, fun j hj => key _ _ _ h5 (h.rr j hj)⟩

section
variable {w W : World} {F N K T R n nf k : Nat} {lb : Array Value} {nx : Nat → Nat → Option Nat} {sym : Nat → Nat → Nat} {r : Nat → Nat}
theorem pair_env (hbw : Below w.heap.size w W) (hnx : NextOf w nf lb nx n) (hx : Nx n sym nx) (E : PEnv W F N K T R n nf k lb r) (hk : k ≤ 400000)
    (eg : ∀ args w, (callFunc nf args).run Try.prog w = .ok (.enter nf args) w) (i : Nat) (hi : i < n) :
    Calls Try.prog 26 (#[.int .i64 (i : Int)] ++ #[.pointer (some ⟨N, 0, none⟩), .pointer (some ⟨K, 0, none⟩), .pointer (some ⟨T, 0, none⟩)]) W fun e W' =>
      e = .returned (.agg #[.int .i64 (r i : Int), .int .i64 (snd' nx r k i : Int)]) ∧ Below W.heap.size W W' :=
  pair_law W N K T R n nf lb nx r i k E.nn E.kk E.tt hi E.rr (fun j hj => (hx.some i k j hi hj).1) (hnx i k hi hk _ (hbw.trans (((Below.refl _ W).alloc (Nat.le_refl _) _).mono hbw.size))) eg

/-- the keys of the round -/
theorem key3_env (hbw : Below w.heap.size w W) (hnx : NextOf w nf lb nx n) (hx : Nx n sym nx) (E : PEnv W F N K T R n nf k lb r) (hk : k ≤ 400000)
    (eg : ∀ args w, (callFunc nf args).run Try.prog w = .ok (.enter nf args) w) (l : List Nat) (hl : ∀ i ∈ l, i < n) : KeyOf W 27 #[.pointer (some ⟨F, 0, none⟩)] (snd' nx r k) l :=
  fun i hi W' hW' => by
    have E' := E.below hW'
    exact key3_law W' F i _ _ _ E'.f (pair_env (hbw.trans (hW'.mono hbw.size)) hnx hx E' hk eg i (hl i hi))
theorem key4_env (hbw : Below w.heap.size w W) (hnx : NextOf w nf lb nx n) (hx : Nx n sym nx) (E : PEnv W F N K T R n nf k lb r) (hk : k ≤ 400000)
    (eg : ∀ args w, (callFunc nf args).run Try.prog w = .ok (.enter nf args) w) (l : List Nat) (hl : ∀ i ∈ l, i < n) : KeyOf W 28 #[.pointer (some ⟨F, 0, none⟩)] r l :=
  fun i hi W' hW' => by
    have E' := E.below hW'
    exact key4_law W' F i _ _ _ E'.f (pair_env (hbw.trans (hW'.mono hbw.size)) hnx hx E' hk eg i (hl i hi))
theorem key1_env (hT : W.cell? ⟨T, 0, none⟩ = some (.slice (some ⟨R, 0, none⟩) n n)) (hr : ∀ j, j < n → W.cell? ⟨R, j, none⟩ = some (.int .i64 (r j : Int))) (l : List Nat) (hl : ∀ i ∈ l, i < n) :
    KeyOf W 25 #[.pointer (some ⟨T, 0, none⟩)] r l :=
  fun i hi W' hW' => (key1_law W' T R n i (r i) (cell_below hT hW') (hl i hi) (cell_below (hr i (hl i hi)) hW')).mono fun e W'' ⟨h1, h2⟩ => ⟨h1, by rw [h2]; exact Below.refl _ _⟩
end

theorem eq_pairs (w : World) (a b c d : Int) : (Op.equalIn 10000 47 (.agg #[.int .i64 a, .int .i64 b]) (.agg #[.int .i64 c, .int .i64 d])).run Try.prog w = .ok (a == c && b == d) w := by
  have u3 := Try.underlying3
  have a3 := Try.isAgg3
  have z3 := Try.sizeOf3
  rw [show (10000 : Nat) = 9999 + 1 from rfl, Op.equalIn]
  simp only [Sem.run_bind, run_underlying Try.underlying47, Result.andThen_ok]
  simp only [Std.Legacy.Range.forIn_eq_forIn_range', Std.Legacy.Range.size, Nat.sub_zero, Nat.add_sub_cancel, Nat.div_one, List.range'_succ, List.range'_zero, List.forIn_cons, List.forIn_nil]
  go_simp
  by_cases h1 : a = c <;> by_cases h2 : b = d <;> simp [h1, h2]

/-- two pairs, unlike? -/
theorem run_pairs (w : World) (a b c d : Nat) : (binOp .neq 47 (.agg #[.int .i64 (a : Int), .int .i64 (b : Int)]) (.agg #[.int .i64 (c : Int), .int .i64 (d : Int)])).run Try.prog w = .ok (.bool (!(a == c && b == d))) w := by
  rw [run_neq_struct, eq_pairs]
  have h : ∀ x y : Nat, ((x : Int) == (y : Int)) = (x == y) := fun x y => by rw [Bool.eq_iff_iff, beq_iff_eq, beq_iff_eq]; omega
  rw [h, h]; rfl
end Go.Proofs.Ytjjdckbdjmbndaa
