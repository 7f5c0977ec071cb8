/- rle.Unpack: the closure that puts bytes. -/
import Derived.Test.YtjlhhbbciaeggaaRep
import Derived.Test.YtjlhhbbciaeggaaRleC
import Derived.Test.YtjlhhbbciaeggaaRegT
namespace Go.Proofs.Ytjlhhbbciaeggaa
set_option linter.unusedSimpArgs false
set_option linter.unusedVariables false
open Go.RowKit Go.Shelf
attribute [local go_sem] Oper.semAt_some

theorem cell_below {W W' : World} {a : Addr} {v : Value} (h : W.cell? a = some v) (hb : Below W.heap.size W W') : W'.cell? a = some v := by
  rw [hb.cell (World.block_lt_of_cell? W a h)]; exact h
/-- a Flow in a box of its own -/
def FlowIn (w : World) (G : Nat) (a : Option Addr) (m c size used : Nat) : Prop := Own w 29 1 G (some ⟨G, 0, none⟩) 4 4 [.slice a m c, .int .i64 (size : Int), .int .i64 (used : Int), .bool false]

set_option maxRecDepth 100000 in
set_option maxHeartbeats 2000000 in
theorem put_law (w : World) (G Bk : Nat) (a : Option Addr) (m c size used keep : Nat) (o : List UInt8) (hf : FlowIn w G a m c size used) (hk : Boxed w Bk 3 (.int .i64 (keep : Int))) (ho : Own w 5 1 (G + 1) a m c (B8 o)) (hBk : Bk < G) (hG : G + 1 ≤ w.heap.size)
    (x : UInt8) (n : Nat) (hm : m ≤ 4000000) (hn : n ≤ 4000000) (hsz : size ≤ 4000000) (hkp : keep ≤ 9223372036854775807) :
    Calls Try.prog 18 #[.int .u8 (x.toNat : Int), .int .i64 (n : Int), .pointer (some ⟨G, 0, none⟩), .pointer (some ⟨Bk, 0, none⟩)] w fun e w' => (∃ v, e = .returned v) ∧ ∃ a' c', FlowIn w' G a' (m + min n (keep - size)) c' (size + n) used ∧
      Own w' 5 1 (G + 1) a' (m + min n (keep - size)) c' (B8 (o ++ List.replicate (min n (keep - size)) x)) ∧ Below G w w' := by
  refine (callsIn_wide (n := 9)).1 ?_
  refine callsIn_of_wp Try.func18 rfl trivial ?_ rfl
  simp only [Try.ntmps18, List.size_toArray, List.length_cons, List.length_nil, Nat.reduceAdd, Nat.reduceSub, Array.replicate_succ, Array.replicate_zero, List.push_toArray, List.append_toArray, List.nil_append, List.cons_append]
  obtain ⟨r, hr⟩ : ∃ r, min n (keep - size) = r := ⟨_, rfl⟩
  rw [hr]
  have hrn : r ≤ n := by omega
  have c0 : w.cell? ⟨G, 0, none⟩ = some (.slice a m c) := (Own.read hf (j := 0) rfl).1
  have c1 : w.cell? ⟨G, 1, none⟩ = some (.int .i64 (size : Int)) := (Own.read hf (j := 1) rfl).1
  have ck := hk.cell
  obtain ⟨sn, hsn⟩ : ∃ sn, size + n = sn := ⟨_, rfl⟩
  rw [hsn]
  have esn : (size : Int) + (n : Int) = (sn : Int) := by omega
  have wsn : IntKind.i64.wrap (sn : Int) = (sn : Int) := IntWalk.i64_in _ (by omega)
  clear hsn
  obtain ⟨d, hd⟩ : ∃ d, keep - size = d := ⟨_, rfl⟩
  rw [hd] at hr
  obtain ⟨z, hz⟩ : ∃ z : Int, (keep : Int) - (size : Int) = z := ⟨_, rfl⟩
  have hsub : IntKind.i64.wrap z = z := IntWalk.i64_in _ (by omega)
  have hmax : ∀ ts t W, (Builtin.max_ ts t #[.int .i64 0, .int .i64 z]).run Try.prog W = .ok (.int .i64 (d : Int)) W := fun ts t W => by
    rw [run_max_int2]; congr 2; split <;> omega
  have hmin : ∀ ts t W, (Builtin.min_ ts t #[.int .i64 (n : Int), .int .i64 (d : Int)]).run Try.prog W = .ok (.int .i64 (r : Int)) W := fun ts t W => by
    rw [run_min_int2]; congr 2; split <;> omega
  clear hr hd
  gi_wp2_with fail
  refine regionT [0, 1, 2, 4, 5, 6, 7, 8, 9, 10] (fun w' => w'.cell? ⟨G, 0, none⟩ = some (.slice a m c) ∧ w'.cell? ⟨G, 1, none⟩ = some (.int .i64 (size : Int)) ∧ w'.cell? ⟨Bk, 0, none⟩ = some (.int .i64 (keep : Int))) (by kernel_rfl) ?_
  have hSS : (fun w' : World => w'.cell? ⟨G, 0, none⟩ = some (.slice a m c) ∧ w'.cell? ⟨G, 1, none⟩ = some (.int .i64 (size : Int)) ∧ w'.cell? ⟨Bk, 0, none⟩ = some (.int .i64 (keep : Int))) w.drew := ⟨c0, c1, ck⟩
  refine AnyT.take (i := 0) (v := ?_) (by decide) (by kernel_rfl) rfl (by kernel_rfl) (by kernel_rfl) (by kernel_rfl) (by kernel_rfl) (fun _ _ _ h => h) (by assumption) (by rfl) (fun _ => rfl) ?_ ?_
  rotate_left
  focus (intro w hSw; (try dsimp only at hSw); go_split_ands; go_simp; (try with_reducible rfl))
  (try simp only [Act.put, List.setIfInBounds_toArray, List.set_cons_zero, List.set_cons_succ, Array.setIfInBounds_toArray])
  refine AnyT.take (i := 1) (v := ?_) (by decide) (by kernel_rfl) rfl (by kernel_rfl) (by kernel_rfl) (by kernel_rfl) (by kernel_rfl) (fun _ _ _ h => h) (by assumption) (by rfl) (fun _ => rfl) ?_ ?_
  rotate_left
  focus (intro w hSw; (try dsimp only at hSw); go_split_ands; go_simp; (try with_reducible rfl))
  (try simp only [Act.put, List.setIfInBounds_toArray, List.set_cons_zero, List.set_cons_succ, Array.setIfInBounds_toArray])
  refine AnyT.take (i := 2) (v := ?_) (by decide) (by kernel_rfl) rfl (by kernel_rfl) (by kernel_rfl) (by kernel_rfl) (by kernel_rfl) (fun _ _ _ h => h) (by assumption) (by rfl) (fun _ => rfl) ?_ ?_
  rotate_left
  focus (intro w hSw; (try dsimp only at hSw); go_split_ands; go_simp; (try with_reducible rfl))
  (try simp only [Act.put, List.setIfInBounds_toArray, List.set_cons_zero, List.set_cons_succ, Array.setIfInBounds_toArray])
  refine AnyT.take (i := 4) (v := ?_) (by decide) (by kernel_rfl) rfl (by kernel_rfl) (by kernel_rfl) (by kernel_rfl) (by kernel_rfl) (fun _ _ _ h => h) (by assumption) (by rfl) (fun _ => rfl) ?_ ?_
  rotate_left
  focus (intro w hSw; (try dsimp only at hSw); go_split_ands; go_simp; (try with_reducible rfl))
  (try simp only [Act.put, List.setIfInBounds_toArray, List.set_cons_zero, List.set_cons_succ, Array.setIfInBounds_toArray])
  refine AnyT.take (i := 5) (v := ?_) (by decide) (by kernel_rfl) rfl (by kernel_rfl) (by kernel_rfl) (by kernel_rfl) (by kernel_rfl) (fun _ _ _ h => h) (by assumption) (by rfl) (fun _ => rfl) ?_ ?_
  rotate_left
  focus (intro w hSw; (try dsimp only at hSw); go_split_ands; go_simp; (try with_reducible rfl))
  (try simp only [Act.put, List.setIfInBounds_toArray, List.set_cons_zero, List.set_cons_succ, Array.setIfInBounds_toArray])
  refine AnyT.take (i := 6) (v := ?_) (by decide) (by kernel_rfl) rfl (by kernel_rfl) (by kernel_rfl) (by kernel_rfl) (by kernel_rfl) (fun _ _ _ h => h) (by assumption) (by rfl) (fun _ => rfl) ?_ ?_
  rotate_left
  focus (intro w hSw; (try dsimp only at hSw); go_split_ands; go_simp; (try with_reducible rfl))
  (try simp only [Act.put, List.setIfInBounds_toArray, List.set_cons_zero, List.set_cons_succ, Array.setIfInBounds_toArray])
  refine AnyT.take (i := 7) (v := ?_) (by decide) (by kernel_rfl) rfl (by kernel_rfl) (by kernel_rfl) (by kernel_rfl) (by kernel_rfl) (fun _ _ _ h => h) (by assumption) (by rfl) (fun _ => rfl) ?_ ?_
  rotate_left
  focus (intro w hSw; (try dsimp only at hSw); go_split_ands; go_simp; (try with_reducible rfl))
  (try simp only [Act.put, List.setIfInBounds_toArray, List.set_cons_zero, List.set_cons_succ, Array.setIfInBounds_toArray])
  refine AnyT.take (i := 8) (v := ?_) (by decide) (by kernel_rfl) rfl (by kernel_rfl) (by kernel_rfl) (by kernel_rfl) (by kernel_rfl) (fun _ _ _ h => h) (by assumption) (by rfl) (fun _ => rfl) ?_ ?_
  rotate_left
  focus (intro w hSw; (try dsimp only at hSw); go_split_ands; go_simp; (try with_reducible rfl))
  (try simp only [Act.put, List.setIfInBounds_toArray, List.set_cons_zero, List.set_cons_succ, Array.setIfInBounds_toArray])
  refine AnyT.take (i := 9) (v := ?_) (by decide) (by kernel_rfl) rfl (by kernel_rfl) (by kernel_rfl) (by kernel_rfl) (by kernel_rfl) (fun _ _ _ h => h) (by assumption) (by rfl) (fun _ => rfl) ?_ ?_
  rotate_left
  focus (intro w hSw; (try dsimp only at hSw); go_split_ands; go_simp; (try with_reducible rfl))
  (try simp only [Act.put, List.setIfInBounds_toArray, List.set_cons_zero, List.set_cons_succ, Array.setIfInBounds_toArray])
  refine AnyT.take (i := 10) (v := ?_) (by decide) (by kernel_rfl) rfl (by kernel_rfl) (by kernel_rfl) (by kernel_rfl) (by kernel_rfl) (fun _ _ _ h => h) (by assumption) (by rfl) (fun _ => rfl) ?_ ?_
  rotate_left
  focus (intro w hSw; (try dsimp only at hSw); go_split_ands; go_simp; (try with_reducible rfl))
  (try simp only [Act.put, List.setIfInBounds_toArray, List.set_cons_zero, List.set_cons_succ, Array.setIfInBounds_toArray])
  refine AnyT.only (i := 3) (by kernel_rfl) rfl (by rfl) (fun K hK => ?_)
  go_simp
  refine hK.out _ _ (fun _ => ⟨(cell_below (W := w.drew) c0 ((Below.refl _ _).alloc (Nat.le_refl _) _)), (cell_below (W := w.drew) c1 ((Below.refl _ _).alloc (Nat.le_refl _) _)), (cell_below (W := w.drew) ck ((Below.refl _ _).alloc (Nat.le_refl _) _))⟩) ?_
  clear hK K
  have rs := Rd.row w.drew 5 1 1 (repC x 1) rfl (by decide) (repC_one x 1)
  have bA : Below w.heap.size w (w.drew.alloc (.cells #[.int .u8 (x.toNat : Int)] 5)) := (Below.refl w.heap.size w).drew.alloc (Nat.le_refl _) _
  refine AnyT.only (i := 11) (by kernel_rfl) rfl (by rfl) (fun K hK => ?_)
  go_simp
  refine callWide (repeat_law _ _ 1 x rs r (by omega)) ?_
  rintro e w3 ⟨sd, sc, rfl, rd3, b3⟩
  have b3' : Below w.heap.size w w3 := bA.trans (b3.mono (by simp))
  refine hK.out _ _ (fun _ => ⟨cell_below c0 b3', cell_below c1 b3', cell_below ck b3'⟩) ?_
  clear hK K rs bA b3
  rw [← repC_B8] at rd3
  have ho3 := ho.below b3'
  have hf3 : Own w3 29 1 G _ 4 4 _ := Own.below hf b3'
  obtain ⟨a', c', w4, hrun, o4, g4, n4⟩ := run_app (P := Try.prog) elB 22 ho3 rd3 (by unfold maxLen; omega) (by omega) (Nat.le_trans hG b3'.size)
  have hf4 : Own w4 29 1 G (some ⟨G, 0, none⟩) 4 4 [.slice a m c, .int .i64 (size : Int), .int .i64 (used : Int), .bool false] := hf3.other g4 fun g hg e => by
    cases hg
    cases ha : a with
    | none => rw [ha] at e; cases e
    | some y =>
      have := ho.shape y ha
      have := (ho.blk (g := y.block) (by rw [ha, ← this])).1
      rw [ha] at e; simp [bOf] at e; omega
  have bG4 : Below G w w4 := Own.grown (b3'.mono (by omega)) ho3 g4 (Nat.le_trans (by omega) b3'.size) (by omega)
  have hk4 : Boxed w4 Bk 3 (.int .i64 (keep : Int)) := (bG4.block _ hBk).trans hk
  refine AnyT.run1 (i := 12) (by kernel_rfl) rfl (by rfl) (fun _ => trivial) (fun c hc => by cases hc) (exec_append rfl rfl rfl hrun) ⟨(Own.read hf4 (j := 0) rfl).1, (Own.read hf4 (j := 1) rfl).1, hk4.cell⟩ ?_
  have r4 := Own.read hf4 (j := 0) rfl
  have r5 := Own.read (hf4.set 0 (.slice a' (m + r) c') rfl) (j := 1) rfl
  have hf6 := (hf4.set 0 (.slice a' (m + r) c') rfl).set 1 (.int .i64 (sn : Int)) rfl
  have ho6 := (o4.setOther ⟨G, 0, none⟩ (.slice a' (m + r) c') (fun g hg => by have := (o4.blk hg).1; simp; omega)).setOther ⟨G, 1, none⟩ (.int .i64 (sn : Int)) (fun g hg => by have := (o4.blk hg).1; simp; omega)
  rw [B8_app] at ho6
  have bG6 : Below G w ((w4.setCell ⟨G, 0, none⟩ (.slice a' (m + r) c')).setCell ⟨G, 1, none⟩ (.int .i64 (sn : Int))) := (bG4.setCell (by simp) _).setCell (by simp) _
  have HF := Lib.hid hf6; clear hf6
  have HO := Lib.hid ho6; clear ho6
  have HG := Lib.hid bG6; clear bG6
  obtain ⟨q4, z4⟩ := r4
  obtain ⟨q5, z5⟩ := r5
  clear o4 g4 n4 hf4 bG4 hk4 hrun ho3 hf3 b3' rd3 hSS hmax hmin ho hf hk c0 c1 ck
  refine AnyT.only (i := 13) (by kernel_rfl) rfl (by rfl) (fun K hK => ?_)
  go_simp
  refine hK.out _ _ (fun h => absurd h (by decide +kernel)) ?_
  clear hK K
  refine AnyT.only (i := 14) (by kernel_rfl) rfl (by rfl) (fun K hK => ?_)
  go_simp
  refine hK.out _ _ (fun h => absurd h (by decide +kernel)) ?_
  clear hK K
  refine AnyT.done (by kernel_rfl) ?_ _
  gi_wp2
  go_end0
  exact ⟨⟨_, rfl⟩, a', c', HF.out, HO.out, HG.out⟩
end Go.Proofs.Ytjlhhbbciaeggaa
