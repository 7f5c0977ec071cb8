/- The document's answers: walks. -/
import Derived.Test.YtkijfooijchilaaNearN
import Derived.Test.YtkijfooijchilaaSame
namespace Go.Proofs.Ytkijfooijchilaa
set_option linter.unusedSimpArgs false
set_option linter.unusedVariables false
open Go.RowKit

/-- the nearest lesser one ahead, looked for from c downwards; one more than its place -/
def backI (zs : List Int) (v : Int) : Nat → Nat
  | 0 => 0
  | c + 1 => if v ≤ atI zs c then backI zs v c else c + 1
def refAhead (zs : List Int) (m : Nat) : List Int := (List.range m).map fun i => (backI zs (atI zs i) i : Int) - 1
theorem refAhead_succ (zs : List Int) (m : Nat) : refAhead zs (m + 1) = refAhead zs m ++ [(backI zs (atI zs m) m : Int) - 1] := by simp [refAhead, List.range_succ]

/-- the nearest lesser one behind, d places left -/
def forI (zs : List Int) (v : Int) (n : Nat) : Nat → Nat
  | 0 => n
  | d + 1 => if v ≤ atI zs (n - (d + 1)) then forI zs v n d else n - (d + 1)
def refBehind (zs : List Int) (m : Nat) : List Int := (List.range m).map fun i => (forI zs (atI zs i) zs.length (zs.length - (i + 1)) : Int)
theorem refBehind_succ (zs : List Int) (m : Nat) : refBehind zs (m + 1) = refBehind zs m ++ [(forI zs (atI zs m) zs.length (zs.length - (m + 1)) : Int)] := by simp [refBehind, List.range_succ]

set_option maxRecDepth 100000 in
set_option maxHeartbeats 400000 in
theorem refAhead_law (w : World) (ad : Option Addr) (n cap : Nat) (zs : List Int) (hz : Rd w 1 ad n cap (I64 zs)) (hn : n ≤ 100000) :
    Calls Try.prog 11 #[.slice ad n cap] w fun e w' => ∃ a c, e = .returned (.slice a n c) ∧ Own w' 3 1 w.heap.size a n c (I64 (refAhead zs n)) ∧ Below w.heap.size w w' := by
  have hlz := hz.lenI
  have HZ := Lib.hid hlz; clear hlz
  go_enter Try.func11, Try.ntmps11
  go_wp2_with fail
  go_loopg [3, 4] n (fun k o i wr => ∃ j : Nat, j ≤ n ∧ k = n - j ∧ i = .int .i64 j ∧ Below w.heap.size w wr ∧ ∃ a c, o = .slice a j c ∧ Own wr 3 1 w.heap.size a j c (I64 (refAhead zs j)))
  case atStart => exact ⟨0, Nat.zero_le _, by simp, rfl, Below.refl _ _, none, 0, rfl, Own.nil _ _ _ _⟩
  case round =>
    obtain ⟨j, hj, rfl, rfl, hb, a, c, rfl, ho⟩ := hrel
    rename World => wo
    by_cases hlt : j < n
    · have hz1 := hz.below hb
      obtain ⟨v, hv⟩ : ∃ v, atI zs j = v := ⟨_, rfl⟩
      have HV := Lib.hid hv; clear hv
      have hz0 := Lib.hid hz; clear hz
      go_wp2_with fail
      go_loopg [5] j (fun k i wr2 => ∃ (d : Nat) (z : Int), d ≤ j ∧ k = d ∧ i = .int .i64 z ∧ z = (d : Int) - 1 ∧ Below wo.heap.size wo wr2 ∧ Hid (backI zs v d = backI zs v j))
      case atStart => exact ⟨j, _, Nat.le_refl _, rfl, rfl, rfl, Below.refl _ _, rfl⟩
      case round =>
        obtain ⟨d, z, hd, rfl, rfl, hzz, hb2, hback⟩ := hrel
        have ho2 := (ho.below hb2).drew
        rename World => wi
        have hb3 : Below w.heap.size w wi.drew := (hb.trans (hb2.mono hb.size)).drew
        have hw3 := hb3.size
        have H3 := Lib.hid hw3; clear hw3
        have hz2 := hz1.below hb2
        have hz3 := hz2.drew
        obtain ⟨n1, c1⟩ := hz2.getI hlt
        rw [HV.out] at c1
        have h63 : j + 1 ≤ maxLen := by unfold maxLen; omega
        have hby : (j + 1) * 8 ≤ 140737488355328 := by omega
        have H1 := Lib.hid h63; clear h63
        have H2 := Lib.hid hby; clear hby
        cases gk with
        | zero =>
          obtain rfl : z = -1 := by omega
          clear hzz
          go_upto_region 6 with fail
          refine stl_region (by kernel_rfl) (by kernel_rfl) ?_
          refine stl_wp (by kernel_rfl) (by kernel_rfl) ?_; intro K hK; go_simp; refine hK _ ?_; clear hK K; (try simp only [Act.put, List.setIfInBounds_toArray, List.set_cons_zero, List.set_cons_succ, Array.setIfInBounds_toArray])
          refine stl_wp (by kernel_rfl) (by kernel_rfl) ?_; intro K hK; go_simp; refine hK _ ?_; clear hK K; (try simp only [Act.put, List.setIfInBounds_toArray, List.set_cons_zero, List.set_cons_succ, Array.setIfInBounds_toArray])
          refine stl_wp (by kernel_rfl) (by kernel_rfl) ?_; intro K hK; go_simp; refine hK _ ?_; clear hK K; (try simp only [Act.put, List.setIfInBounds_toArray, List.set_cons_zero, List.set_cons_succ, Array.setIfInBounds_toArray])
          refine stl_skip (by kernel_rfl) ?_; (try simp only [Act.put, List.setIfInBounds_toArray, List.set_cons_zero, List.set_cons_succ, Array.setIfInBounds_toArray])
          refine stl_skip (by kernel_rfl) ?_; (try simp only [Act.put, List.setIfInBounds_toArray, List.set_cons_zero, List.set_cons_succ, Array.setIfInBounds_toArray])
          refine stl_skip (by kernel_rfl) ?_; (try simp only [Act.put, List.setIfInBounds_toArray, List.set_cons_zero, List.set_cons_succ, Array.setIfInBounds_toArray])
          refine stl_skip (by kernel_rfl) ?_; (try simp only [Act.put, List.setIfInBounds_toArray, List.set_cons_zero, List.set_cons_succ, Array.setIfInBounds_toArray])
          refine stl_skip (by kernel_rfl) ?_; (try simp only [Act.put, List.setIfInBounds_toArray, List.set_cons_zero, List.set_cons_succ, Array.setIfInBounds_toArray])
          refine stl_skip (by kernel_rfl) ?_; (try simp only [Act.put, List.setIfInBounds_toArray, List.set_cons_zero, List.set_cons_succ, Array.setIfInBounds_toArray])
          refine stl_skip (by kernel_rfl) ?_; (try simp only [Act.put, List.setIfInBounds_toArray, List.set_cons_zero, List.set_cons_succ, Array.setIfInBounds_toArray])
          refine stl_skip (by kernel_rfl) ?_; (try simp only [Act.put, List.setIfInBounds_toArray, List.set_cons_zero, List.set_cons_succ, Array.setIfInBounds_toArray])
          refine stl_skip (by kernel_rfl) ?_; (try simp only [Act.put, List.setIfInBounds_toArray, List.set_cons_zero, List.set_cons_succ, Array.setIfInBounds_toArray])
          refine stl_wp (by kernel_rfl) (by kernel_rfl) ?_; intro K hK; go_simp; refine hK _ ?_; clear hK K; (try simp only [Act.put, List.setIfInBounds_toArray, List.set_cons_zero, List.set_cons_succ, Array.setIfInBounds_toArray])
          refine stl_nil ?_
          go_wp2_with (refine wpList_push rfl _ _ _ rfl tI rfl rfl ho2 (ys := [.int .i64 (-1)]) rfl (by simp [Value.oneCell']) H1.out H2.out H3.out ?_; intro a' c' w1 o1 r1 _)
          go_roundg (n - (j + 1))
          case measure => omega
          case rel =>
            refine ⟨j + 1, by omega, rfl, by simp, Own.grown hb3 ho2 r1 H3.out (Nat.le_refl _), a', c', rfl, ?_⟩
            rw [refAhead_succ, ← I64_app, HV.out, ← hback.out]
            exact o1
        | succ d =>
          obtain rfl : z = (d : Int) := by omega
          have hdn : d < n := by omega
          clear hzz
          obtain ⟨n2, c2⟩ := hz2.getI (k := d) (by omega)
          obtain ⟨u, hu⟩ : ∃ u, atI zs d = u := ⟨_, rfl⟩
          rw [hu] at c2
          have HU := Lib.hid hu; clear hu
          go_upto_region 6 with fail
          refine stl_region (by kernel_rfl) (by kernel_rfl) ?_
          by_cases huv : v ≤ u
          · skip
            refine stl_wp (by kernel_rfl) (by kernel_rfl) ?_; intro K hK; go_simp; refine hK _ ?_; clear hK K; (try simp only [Act.put, List.setIfInBounds_toArray, List.set_cons_zero, List.set_cons_succ, Array.setIfInBounds_toArray])
            refine stl_wp (by kernel_rfl) (by kernel_rfl) ?_; intro K hK; go_simp; refine hK _ ?_; clear hK K; (try simp only [Act.put, List.setIfInBounds_toArray, List.set_cons_zero, List.set_cons_succ, Array.setIfInBounds_toArray])
            refine stl_wp (by kernel_rfl) (by kernel_rfl) ?_; intro K hK; go_simp; refine hK _ ?_; clear hK K; (try simp only [Act.put, List.setIfInBounds_toArray, List.set_cons_zero, List.set_cons_succ, Array.setIfInBounds_toArray])
            refine stl_wp (by kernel_rfl) (by kernel_rfl) ?_; intro K hK; go_simp; refine hK _ ?_; clear hK K; (try simp only [Act.put, List.setIfInBounds_toArray, List.set_cons_zero, List.set_cons_succ, Array.setIfInBounds_toArray])
            refine stl_wp (by kernel_rfl) (by kernel_rfl) ?_; intro K hK; go_simp; refine hK _ ?_; clear hK K; (try simp only [Act.put, List.setIfInBounds_toArray, List.set_cons_zero, List.set_cons_succ, Array.setIfInBounds_toArray])
            refine stl_wp (by kernel_rfl) (by kernel_rfl) ?_; intro K hK; go_simp; refine hK _ ?_; clear hK K; (try simp only [Act.put, List.setIfInBounds_toArray, List.set_cons_zero, List.set_cons_succ, Array.setIfInBounds_toArray])
            refine stl_wp (by kernel_rfl) (by kernel_rfl) ?_; intro K hK; go_simp; refine hK _ ?_; clear hK K; (try simp only [Act.put, List.setIfInBounds_toArray, List.set_cons_zero, List.set_cons_succ, Array.setIfInBounds_toArray])
            refine stl_wp (by kernel_rfl) (by kernel_rfl) ?_; intro K hK; go_simp; refine hK _ ?_; clear hK K; (try simp only [Act.put, List.setIfInBounds_toArray, List.set_cons_zero, List.set_cons_succ, Array.setIfInBounds_toArray])
            refine stl_wp (by kernel_rfl) (by kernel_rfl) ?_; intro K hK; go_simp; refine hK _ ?_; clear hK K; (try simp only [Act.put, List.setIfInBounds_toArray, List.set_cons_zero, List.set_cons_succ, Array.setIfInBounds_toArray])
            refine stl_wp (by kernel_rfl) (by kernel_rfl) ?_; intro K hK; go_simp; refine hK _ ?_; clear hK K; (try simp only [Act.put, List.setIfInBounds_toArray, List.set_cons_zero, List.set_cons_succ, Array.setIfInBounds_toArray])
            refine stl_wp (by kernel_rfl) (by kernel_rfl) ?_; intro K hK; go_simp; refine hK _ ?_; clear hK K; (try simp only [Act.put, List.setIfInBounds_toArray, List.set_cons_zero, List.set_cons_succ, Array.setIfInBounds_toArray])
            refine stl_wp (by kernel_rfl) (by kernel_rfl) ?_; intro K hK; go_simp; refine hK _ ?_; clear hK K; (try simp only [Act.put, List.setIfInBounds_toArray, List.set_cons_zero, List.set_cons_succ, Array.setIfInBounds_toArray])
            refine stl_wp (by kernel_rfl) (by kernel_rfl) ?_; intro K hK; go_simp; refine hK _ ?_; clear hK K; (try simp only [Act.put, List.setIfInBounds_toArray, List.set_cons_zero, List.set_cons_succ, Array.setIfInBounds_toArray])
            refine stl_nil ?_
            go_wp2_with fail
            go_roundg d
            case measure => omega
            case rel => exact ⟨d, _, by omega, rfl, rfl, rfl, hb2.drew, by rw [← hback.out]; show _ = backI zs v (d + 1); rw [backI, HU.out, if_pos huv]⟩
          · have huv' : u < v := by omega
            clear huv
            refine stl_wp (by kernel_rfl) (by kernel_rfl) ?_; intro K hK; go_simp; refine hK _ ?_; clear hK K; (try simp only [Act.put, List.setIfInBounds_toArray, List.set_cons_zero, List.set_cons_succ, Array.setIfInBounds_toArray])
            refine stl_wp (by kernel_rfl) (by kernel_rfl) ?_; intro K hK; go_simp; refine hK _ ?_; clear hK K; (try simp only [Act.put, List.setIfInBounds_toArray, List.set_cons_zero, List.set_cons_succ, Array.setIfInBounds_toArray])
            refine stl_wp (by kernel_rfl) (by kernel_rfl) ?_; intro K hK; go_simp; refine hK _ ?_; clear hK K; (try simp only [Act.put, List.setIfInBounds_toArray, List.set_cons_zero, List.set_cons_succ, Array.setIfInBounds_toArray])
            refine stl_wp (by kernel_rfl) (by kernel_rfl) ?_; intro K hK; go_simp; refine hK _ ?_; clear hK K; (try simp only [Act.put, List.setIfInBounds_toArray, List.set_cons_zero, List.set_cons_succ, Array.setIfInBounds_toArray])
            refine stl_wp (by kernel_rfl) (by kernel_rfl) ?_; intro K hK; go_simp; refine hK _ ?_; clear hK K; (try simp only [Act.put, List.setIfInBounds_toArray, List.set_cons_zero, List.set_cons_succ, Array.setIfInBounds_toArray])
            refine stl_wp (by kernel_rfl) (by kernel_rfl) ?_; intro K hK; go_simp; refine hK _ ?_; clear hK K; (try simp only [Act.put, List.setIfInBounds_toArray, List.set_cons_zero, List.set_cons_succ, Array.setIfInBounds_toArray])
            refine stl_wp (by kernel_rfl) (by kernel_rfl) ?_; intro K hK; go_simp; refine hK _ ?_; clear hK K; (try simp only [Act.put, List.setIfInBounds_toArray, List.set_cons_zero, List.set_cons_succ, Array.setIfInBounds_toArray])
            refine stl_wp (by kernel_rfl) (by kernel_rfl) ?_; intro K hK; go_simp; refine hK _ ?_; clear hK K; (try simp only [Act.put, List.setIfInBounds_toArray, List.set_cons_zero, List.set_cons_succ, Array.setIfInBounds_toArray])
            refine stl_wp (by kernel_rfl) (by kernel_rfl) ?_; intro K hK; go_simp; refine hK _ ?_; clear hK K; (try simp only [Act.put, List.setIfInBounds_toArray, List.set_cons_zero, List.set_cons_succ, Array.setIfInBounds_toArray])
            refine stl_wp (by kernel_rfl) (by kernel_rfl) ?_; intro K hK; go_simp; refine hK _ ?_; clear hK K; (try simp only [Act.put, List.setIfInBounds_toArray, List.set_cons_zero, List.set_cons_succ, Array.setIfInBounds_toArray])
            refine stl_wp (by kernel_rfl) (by kernel_rfl) ?_; intro K hK; go_simp; refine hK _ ?_; clear hK K; (try simp only [Act.put, List.setIfInBounds_toArray, List.set_cons_zero, List.set_cons_succ, Array.setIfInBounds_toArray])
            refine stl_wp (by kernel_rfl) (by kernel_rfl) ?_; intro K hK; go_simp; refine hK _ ?_; clear hK K; (try simp only [Act.put, List.setIfInBounds_toArray, List.set_cons_zero, List.set_cons_succ, Array.setIfInBounds_toArray])
            refine stl_wp (by kernel_rfl) (by kernel_rfl) ?_; intro K hK; go_simp; refine hK _ ?_; clear hK K; (try simp only [Act.put, List.setIfInBounds_toArray, List.set_cons_zero, List.set_cons_succ, Array.setIfInBounds_toArray])
            refine stl_nil ?_
            go_wp2_with (refine wpList_push rfl _ _ _ rfl tI rfl rfl ho2 (ys := [.int .i64 (d : Int)]) rfl (by simp [Value.oneCell']) H1.out H2.out H3.out ?_; intro a' c' w1 o1 r1 _)
            go_roundg (n - (j + 1))
            case measure => omega
            case rel =>
              refine ⟨j + 1, by omega, rfl, by simp, Own.grown hb3 ho2 r1 H3.out (Nat.le_refl _), a', c', rfl, ?_⟩
              rw [refAhead_succ, ← I64_app, HV.out, ← hback.out]
              have e : (backI zs v (d + 1) : Int) - 1 = d := by rw [backI, HU.out, if_neg (by omega)]; omega
              rw [e]
              exact o1
    · obtain rfl : j = n := by omega
      go_wp2_with fail
      go_ret
      exact ⟨a, c, rfl, ho, hb⟩
set_option maxRecDepth 100000 in
set_option maxHeartbeats 400000 in
theorem refBehind_law (w : World) (ad : Option Addr) (n cap : Nat) (zs : List Int) (hz : Rd w 1 ad n cap (I64 zs)) (hn : n ≤ 100000) :
    Calls Try.prog 13 #[.slice ad n cap] w fun e w' => ∃ a c, e = .returned (.slice a n c) ∧ Own w' 3 1 w.heap.size a n c (I64 (refBehind zs n)) ∧ Below w.heap.size w w' := by
  have hlz := hz.lenI
  have HZ := Lib.hid hlz; clear hlz
  go_enter Try.func13, Try.ntmps13
  go_wp2_with fail
  go_loopg [3, 4] n (fun k o i wr => ∃ j : Nat, j ≤ n ∧ k = n - j ∧ i = .int .i64 j ∧ Below w.heap.size w wr ∧ ∃ a c, o = .slice a j c ∧ Own wr 3 1 w.heap.size a j c (I64 (refBehind zs j)))
  case atStart => exact ⟨0, Nat.zero_le _, by simp, rfl, Below.refl _ _, none, 0, rfl, Own.nil _ _ _ _⟩
  case round =>
    obtain ⟨j, hj, rfl, rfl, hb, a, c, rfl, ho⟩ := hrel
    rename World => wo
    by_cases hlt : j < n
    · have hz1 := hz.below hb
      obtain ⟨v, hv⟩ : ∃ v, atI zs j = v := ⟨_, rfl⟩
      have HV := Lib.hid hv; clear hv
      have hz0 := Lib.hid hz; clear hz
      go_wp2_with fail
      go_loopg [5] (n - (j + 1)) (fun k i wr2 => ∃ (d q : Nat), d ≤ n - (j + 1) ∧ k = d ∧ i = .int .i64 q ∧ q + d = n ∧ Below wo.heap.size wo wr2 ∧ Hid (forI zs v n d = forI zs v n (n - (j + 1))))
      case atStart => exact ⟨n - (j + 1), j + 1, Nat.le_refl _, rfl, by simp, by omega, Below.refl _ _, rfl⟩
      case round =>
        obtain ⟨d, q, hd, rfl, rfl, hzz, hb2, hback⟩ := hrel
        have ho2 := (ho.below hb2).drew
        rename World => wi
        have hb3 : Below w.heap.size w wi.drew := (hb.trans (hb2.mono hb.size)).drew
        have hw3 := hb3.size
        have H3 := Lib.hid hw3; clear hw3
        have hz2 := hz1.below hb2
        have hz3 := hz2.drew
        obtain ⟨n1, c1⟩ := hz2.getI hlt
        rw [HV.out] at c1
        have h63 : j + 1 ≤ maxLen := by unfold maxLen; omega
        have hby : (j + 1) * 8 ≤ 140737488355328 := by omega
        have H1 := Lib.hid h63; clear h63
        have H2 := Lib.hid hby; clear hby
        cases gk with
        | zero =>
          obtain rfl : n = q := by omega
          clear hzz
          go_upto_region 6 with fail
          refine stl_region (by kernel_rfl) (by kernel_rfl) ?_
          refine stl_wp (by kernel_rfl) (by kernel_rfl) ?_; intro K hK; go_simp; refine hK _ ?_; clear hK K; (try simp only [Act.put, List.setIfInBounds_toArray, List.set_cons_zero, List.set_cons_succ, Array.setIfInBounds_toArray])
          refine stl_wp (by kernel_rfl) (by kernel_rfl) ?_; intro K hK; go_simp; refine hK _ ?_; clear hK K; (try simp only [Act.put, List.setIfInBounds_toArray, List.set_cons_zero, List.set_cons_succ, Array.setIfInBounds_toArray])
          refine stl_wp (by kernel_rfl) (by kernel_rfl) ?_; intro K hK; go_simp; refine hK _ ?_; clear hK K; (try simp only [Act.put, List.setIfInBounds_toArray, List.set_cons_zero, List.set_cons_succ, Array.setIfInBounds_toArray])
          refine stl_wp (by kernel_rfl) (by kernel_rfl) ?_; intro K hK; go_simp; refine hK _ ?_; clear hK K; (try simp only [Act.put, List.setIfInBounds_toArray, List.set_cons_zero, List.set_cons_succ, Array.setIfInBounds_toArray])
          refine stl_wp (by kernel_rfl) (by kernel_rfl) ?_; intro K hK; go_simp; refine hK _ ?_; clear hK K; (try simp only [Act.put, List.setIfInBounds_toArray, List.set_cons_zero, List.set_cons_succ, Array.setIfInBounds_toArray])
          refine stl_skip (by kernel_rfl) ?_; (try simp only [Act.put, List.setIfInBounds_toArray, List.set_cons_zero, List.set_cons_succ, Array.setIfInBounds_toArray])
          refine stl_skip (by kernel_rfl) ?_; (try simp only [Act.put, List.setIfInBounds_toArray, List.set_cons_zero, List.set_cons_succ, Array.setIfInBounds_toArray])
          refine stl_skip (by kernel_rfl) ?_; (try simp only [Act.put, List.setIfInBounds_toArray, List.set_cons_zero, List.set_cons_succ, Array.setIfInBounds_toArray])
          refine stl_skip (by kernel_rfl) ?_; (try simp only [Act.put, List.setIfInBounds_toArray, List.set_cons_zero, List.set_cons_succ, Array.setIfInBounds_toArray])
          refine stl_skip (by kernel_rfl) ?_; (try simp only [Act.put, List.setIfInBounds_toArray, List.set_cons_zero, List.set_cons_succ, Array.setIfInBounds_toArray])
          refine stl_skip (by kernel_rfl) ?_; (try simp only [Act.put, List.setIfInBounds_toArray, List.set_cons_zero, List.set_cons_succ, Array.setIfInBounds_toArray])
          refine stl_skip (by kernel_rfl) ?_; (try simp only [Act.put, List.setIfInBounds_toArray, List.set_cons_zero, List.set_cons_succ, Array.setIfInBounds_toArray])
          refine stl_skip (by kernel_rfl) ?_; (try simp only [Act.put, List.setIfInBounds_toArray, List.set_cons_zero, List.set_cons_succ, Array.setIfInBounds_toArray])
          refine stl_skip (by kernel_rfl) ?_; (try simp only [Act.put, List.setIfInBounds_toArray, List.set_cons_zero, List.set_cons_succ, Array.setIfInBounds_toArray])
          refine stl_wp (by kernel_rfl) (by kernel_rfl) ?_; intro K hK; go_simp; refine hK _ ?_; clear hK K; (try simp only [Act.put, List.setIfInBounds_toArray, List.set_cons_zero, List.set_cons_succ, Array.setIfInBounds_toArray])
          refine stl_nil ?_
          go_wp2_with (refine wpList_push rfl _ _ _ rfl tI rfl rfl ho2 (ys := [.int .i64 (n : Int)]) rfl (by simp [Value.oneCell']) H1.out H2.out H3.out ?_; intro a' c' w1 o1 r1 _)
          go_roundg (n - (j + 1))
          case measure => omega
          case rel =>
            refine ⟨j + 1, by omega, rfl, by simp, Own.grown hb3 ho2 r1 H3.out (Nat.le_refl _), a', c', rfl, ?_⟩
            rw [refBehind_succ, ← I64_app, HV.out, HZ.out, ← hback.out]
            exact o1
        | succ d =>
          have hdn : q < n := by omega
          have HQ := Lib.hid hzz; clear hzz
          obtain ⟨n2, c2⟩ := hz2.getI (k := q) (by omega)
          obtain ⟨u, hu⟩ : ∃ u, atI zs q = u := ⟨_, rfl⟩
          rw [hu] at c2
          have HU := Lib.hid hu; clear hu
          go_upto_region 6 with fail
          refine stl_region (by kernel_rfl) (by kernel_rfl) ?_
          by_cases huv : v ≤ u
          · skip
            refine stl_wp (by kernel_rfl) (by kernel_rfl) ?_; intro K hK; go_simp; refine hK _ ?_; clear hK K; (try simp only [Act.put, List.setIfInBounds_toArray, List.set_cons_zero, List.set_cons_succ, Array.setIfInBounds_toArray])
            refine stl_wp (by kernel_rfl) (by kernel_rfl) ?_; intro K hK; go_simp; refine hK _ ?_; clear hK K; (try simp only [Act.put, List.setIfInBounds_toArray, List.set_cons_zero, List.set_cons_succ, Array.setIfInBounds_toArray])
            refine stl_wp (by kernel_rfl) (by kernel_rfl) ?_; intro K hK; go_simp; refine hK _ ?_; clear hK K; (try simp only [Act.put, List.setIfInBounds_toArray, List.set_cons_zero, List.set_cons_succ, Array.setIfInBounds_toArray])
            refine stl_wp (by kernel_rfl) (by kernel_rfl) ?_; intro K hK; go_simp; refine hK _ ?_; clear hK K; (try simp only [Act.put, List.setIfInBounds_toArray, List.set_cons_zero, List.set_cons_succ, Array.setIfInBounds_toArray])
            refine stl_wp (by kernel_rfl) (by kernel_rfl) ?_; intro K hK; go_simp; refine hK _ ?_; clear hK K; (try simp only [Act.put, List.setIfInBounds_toArray, List.set_cons_zero, List.set_cons_succ, Array.setIfInBounds_toArray])
            refine stl_wp (by kernel_rfl) (by kernel_rfl) ?_; intro K hK; go_simp; refine hK _ ?_; clear hK K; (try simp only [Act.put, List.setIfInBounds_toArray, List.set_cons_zero, List.set_cons_succ, Array.setIfInBounds_toArray])
            refine stl_wp (by kernel_rfl) (by kernel_rfl) ?_; intro K hK; go_simp; refine hK _ ?_; clear hK K; (try simp only [Act.put, List.setIfInBounds_toArray, List.set_cons_zero, List.set_cons_succ, Array.setIfInBounds_toArray])
            refine stl_wp (by kernel_rfl) (by kernel_rfl) ?_; intro K hK; go_simp; refine hK _ ?_; clear hK K; (try simp only [Act.put, List.setIfInBounds_toArray, List.set_cons_zero, List.set_cons_succ, Array.setIfInBounds_toArray])
            refine stl_wp (by kernel_rfl) (by kernel_rfl) ?_; intro K hK; go_simp; refine hK _ ?_; clear hK K; (try simp only [Act.put, List.setIfInBounds_toArray, List.set_cons_zero, List.set_cons_succ, Array.setIfInBounds_toArray])
            refine stl_wp (by kernel_rfl) (by kernel_rfl) ?_; intro K hK; go_simp; refine hK _ ?_; clear hK K; (try simp only [Act.put, List.setIfInBounds_toArray, List.set_cons_zero, List.set_cons_succ, Array.setIfInBounds_toArray])
            refine stl_wp (by kernel_rfl) (by kernel_rfl) ?_; intro K hK; go_simp; refine hK _ ?_; clear hK K; (try simp only [Act.put, List.setIfInBounds_toArray, List.set_cons_zero, List.set_cons_succ, Array.setIfInBounds_toArray])
            refine stl_wp (by kernel_rfl) (by kernel_rfl) ?_; intro K hK; go_simp; refine hK _ ?_; clear hK K; (try simp only [Act.put, List.setIfInBounds_toArray, List.set_cons_zero, List.set_cons_succ, Array.setIfInBounds_toArray])
            refine stl_wp (by kernel_rfl) (by kernel_rfl) ?_; intro K hK; go_simp; refine hK _ ?_; clear hK K; (try simp only [Act.put, List.setIfInBounds_toArray, List.set_cons_zero, List.set_cons_succ, Array.setIfInBounds_toArray])
            refine stl_wp (by kernel_rfl) (by kernel_rfl) ?_; intro K hK; go_simp; refine hK _ ?_; clear hK K; (try simp only [Act.put, List.setIfInBounds_toArray, List.set_cons_zero, List.set_cons_succ, Array.setIfInBounds_toArray])
            refine stl_wp (by kernel_rfl) (by kernel_rfl) ?_; intro K hK; go_simp; refine hK _ ?_; clear hK K; (try simp only [Act.put, List.setIfInBounds_toArray, List.set_cons_zero, List.set_cons_succ, Array.setIfInBounds_toArray])
            refine stl_nil ?_
            go_wp2_with fail
            go_roundg d
            case measure => omega
            case rel => have hq := HQ.out; exact ⟨d, q + 1, by omega, rfl, by simp, by omega, hb2.drew, by rw [← hback.out]; show _ = forI zs v n (d + 1); rw [forI, show n - (d + 1) = q by omega, HU.out, if_pos huv]⟩
          · have huv' : u < v := by omega
            clear huv
            refine stl_wp (by kernel_rfl) (by kernel_rfl) ?_; intro K hK; go_simp; refine hK _ ?_; clear hK K; (try simp only [Act.put, List.setIfInBounds_toArray, List.set_cons_zero, List.set_cons_succ, Array.setIfInBounds_toArray])
            refine stl_wp (by kernel_rfl) (by kernel_rfl) ?_; intro K hK; go_simp; refine hK _ ?_; clear hK K; (try simp only [Act.put, List.setIfInBounds_toArray, List.set_cons_zero, List.set_cons_succ, Array.setIfInBounds_toArray])
            refine stl_wp (by kernel_rfl) (by kernel_rfl) ?_; intro K hK; go_simp; refine hK _ ?_; clear hK K; (try simp only [Act.put, List.setIfInBounds_toArray, List.set_cons_zero, List.set_cons_succ, Array.setIfInBounds_toArray])
            refine stl_wp (by kernel_rfl) (by kernel_rfl) ?_; intro K hK; go_simp; refine hK _ ?_; clear hK K; (try simp only [Act.put, List.setIfInBounds_toArray, List.set_cons_zero, List.set_cons_succ, Array.setIfInBounds_toArray])
            refine stl_wp (by kernel_rfl) (by kernel_rfl) ?_; intro K hK; go_simp; refine hK _ ?_; clear hK K; (try simp only [Act.put, List.setIfInBounds_toArray, List.set_cons_zero, List.set_cons_succ, Array.setIfInBounds_toArray])
            refine stl_wp (by kernel_rfl) (by kernel_rfl) ?_; intro K hK; go_simp; refine hK _ ?_; clear hK K; (try simp only [Act.put, List.setIfInBounds_toArray, List.set_cons_zero, List.set_cons_succ, Array.setIfInBounds_toArray])
            refine stl_wp (by kernel_rfl) (by kernel_rfl) ?_; intro K hK; go_simp; refine hK _ ?_; clear hK K; (try simp only [Act.put, List.setIfInBounds_toArray, List.set_cons_zero, List.set_cons_succ, Array.setIfInBounds_toArray])
            refine stl_wp (by kernel_rfl) (by kernel_rfl) ?_; intro K hK; go_simp; refine hK _ ?_; clear hK K; (try simp only [Act.put, List.setIfInBounds_toArray, List.set_cons_zero, List.set_cons_succ, Array.setIfInBounds_toArray])
            refine stl_wp (by kernel_rfl) (by kernel_rfl) ?_; intro K hK; go_simp; refine hK _ ?_; clear hK K; (try simp only [Act.put, List.setIfInBounds_toArray, List.set_cons_zero, List.set_cons_succ, Array.setIfInBounds_toArray])
            refine stl_wp (by kernel_rfl) (by kernel_rfl) ?_; intro K hK; go_simp; refine hK _ ?_; clear hK K; (try simp only [Act.put, List.setIfInBounds_toArray, List.set_cons_zero, List.set_cons_succ, Array.setIfInBounds_toArray])
            refine stl_wp (by kernel_rfl) (by kernel_rfl) ?_; intro K hK; go_simp; refine hK _ ?_; clear hK K; (try simp only [Act.put, List.setIfInBounds_toArray, List.set_cons_zero, List.set_cons_succ, Array.setIfInBounds_toArray])
            refine stl_wp (by kernel_rfl) (by kernel_rfl) ?_; intro K hK; go_simp; refine hK _ ?_; clear hK K; (try simp only [Act.put, List.setIfInBounds_toArray, List.set_cons_zero, List.set_cons_succ, Array.setIfInBounds_toArray])
            refine stl_wp (by kernel_rfl) (by kernel_rfl) ?_; intro K hK; go_simp; refine hK _ ?_; clear hK K; (try simp only [Act.put, List.setIfInBounds_toArray, List.set_cons_zero, List.set_cons_succ, Array.setIfInBounds_toArray])
            refine stl_wp (by kernel_rfl) (by kernel_rfl) ?_; intro K hK; go_simp; refine hK _ ?_; clear hK K; (try simp only [Act.put, List.setIfInBounds_toArray, List.set_cons_zero, List.set_cons_succ, Array.setIfInBounds_toArray])
            refine stl_wp (by kernel_rfl) (by kernel_rfl) ?_; intro K hK; go_simp; refine hK _ ?_; clear hK K; (try simp only [Act.put, List.setIfInBounds_toArray, List.set_cons_zero, List.set_cons_succ, Array.setIfInBounds_toArray])
            refine stl_nil ?_
            go_wp2_with (refine wpList_push rfl _ _ _ rfl tI rfl rfl ho2 (ys := [.int .i64 (q : Int)]) rfl (by simp [Value.oneCell']) H1.out H2.out H3.out ?_; intro a' c' w1 o1 r1 _)
            go_roundg (n - (j + 1))
            case measure => omega
            case rel =>
              refine ⟨j + 1, by omega, rfl, by simp, Own.grown hb3 ho2 r1 H3.out (Nat.le_refl _), a', c', rfl, ?_⟩
              have hq := HQ.out
              have e : (forI zs v n (d + 1) : Int) = q := by rw [forI, show n - (d + 1) = q by omega, HU.out, if_neg (by omega)]
              rw [refBehind_succ, ← I64_app, HV.out, HZ.out, ← hback.out]
              rw [e]
              exact o1
    · obtain rfl : j = n := by omega
      go_wp2_with fail
      go_ret
      exact ⟨a, c, rfl, ho, hb⟩
end Go.Proofs.Ytkijfooijchilaa
