/- bytes.Repeat of one byte: the walk. -/
import Derived.Test.YtindbmfccgeikaaRows
import Derived.Test.YtindbmfccgeikaaStr
import Derived.Lib.MakeNoZero
import Derived.Laws.CopyRow
import Derived.Shelf.Bits.Mul64
namespace Go.Proofs.Ytindbmfccgeikaa
set_option linter.unusedSimpArgs false
set_option linter.unusedVariables false
open Go.RowKit

theorem elB : ElTy Try.prog 22 5 (.int .u8 0) 1 1 := ⟨Try.underlying22, info_parts (by kernel_rfl), rfl, by decide⟩

set_option maxHeartbeats 1000000 in
theorem mul64_one (w : World) (y : Nat) (hy : y < 4294967296) :
    Calls Try.prog 39 #[.int .u64 1, .int .u64 (y : Int)] w fun e w' => e = .returned (.tuple #[.int .u64 0, .int .u64 (y : Int)]) ∧ w = w' := by
  have hd : (y : Int) / 4294967296 = 0 := by omega
  have hm := Mul64.maskN y (by omega)
  rw [Nat.mod_eq_of_lt hy] at hm
  have w1 : IntKind.u64.wrap (y : Int) = (y : Int) := Mul64.wrapN y (by omega)
  have b1 : bits .and .u64 1 4294967295 = 1 := Mul64.maskN 1 (by omega)
  have b0 : bits .and .u64 0 4294967295 = 0 := Mul64.maskN 0 (by omega)
  have z0 : IntKind.u64.wrap 0 = 0 := Mul64.wrapN 0 (by omega)
  go_enter Try.func39, Try.ntmps39
  go_wp2
  refine bodyPost_ret (results_tmp2 rfl _ _ _) rfl ?_
  exact ⟨rfl, rfl⟩
theorem mul_one' (w : World) (y : Nat) (hy : y < 4294967296) :
    Calls Try.prog 32 #[.int .u64 1, .int .u64 (y : Int)] w fun e w' => e = .returned (.tuple #[.int .u64 0, .int .u64 (y : Int)]) ∧ w = w' := by
  go_enter Try.func32, Try.ntmps32
  go_wp2_with fail
  refine (mul64_one w y hy).mono ?_
  rintro e w2 ⟨rfl, rfl⟩
  go_wp2
  refine bodyPost_ret (results_tmp2 rfl _ _ _) rfl ?_
  exact ⟨rfl, rfl⟩

/-- cells of one byte -/
def repC (c : UInt8) (n : Nat) : List Value := List.replicate n (.int .u8 (c.toNat : Int))
theorem repC_B8 (c : UInt8) (n : Nat) : B8 (List.replicate n c) = repC c n := by simp [B8, repC]
theorem repC_one (c : UInt8) (n : Nat) : ∀ v ∈ repC c n, v.oneCell' = true := fun v hv => by rw [List.eq_of_mem_replicate hv]; rfl
/-- a block whose first k cells are the byte -/
def Head (w : World) (M : Nat) (S k : Nat) (c : UInt8) : Prop := ∃ cur : Array Value, w.heap[M]? = some (.cells cur 5 (0, 0)) ∧ cur.size = S ∧ cur.toList.take k = repC c k
theorem Head.cell {w : World} {M S k : Nat} {c : UInt8} (h : Head w M S k c) (j : Nat) (hj : j < k) : w.cell? ⟨M, j, none⟩ = some (.int .u8 (c.toNat : Int)) := by
  obtain ⟨cur, h1, h2, h3⟩ := h
  rw [cell_of_row w M j cur _ (0, 0) h1]
  have : (cur.toList.take k)[j]? = (repC c k)[j]? := by rw [h3]
  rw [List.getElem?_take_of_lt hj] at this
  simpa [repC, hj] using this
theorem setRow_below {B : Nat} {a w : World} {M : Nat} (h : Below B a w) (hM : B ≤ M) (r : Array Value) : Below B a (w.setRow M r) :=
  ⟨h.os, h.tape, h.output, by simpa using h.size, fun k hk => (setRow_other w M k r (by omega)).trans (h.block k hk)⟩

theorem head_copy {w w0 : World} {B M S k : Nat} {c : UInt8} (h : Head w M S k c) (a : Addr) (m dLen dCap sLen sCap : Nat) (hsrc : ∀ j, j < m → w.cell? (a.add j) = some (.int .u8 (c.toNat : Int))) (hm : m = Nat.min sLen dLen) (hfit : k + m ≤ S)
    (hb : Below B w0 w) (hBM : B ≤ M) : ∃ w', (Builtin.copy_ #[22, 22] 3 #[.slice (some ⟨M, k, none⟩) dLen dCap, .slice (some a) sLen sCap]).run Try.prog w = .ok (.int .i64 (m : Int)) w' ∧ Head w' M S (k + m) c ∧ Below B w0 w' := by
  obtain ⟨cur, h1, h2, h3⟩ := h
  have hr := run_copy_row (P := Try.prog) w 22 22 3 5 M k dLen dCap a sLen sCap cur 5 (repC c m) Try.underlying22 (by kernel_rfl) h1 (by simp [repC, hm]) (fun j v hv => by
    obtain ⟨hj, hv'⟩ := List.getElem?_eq_some_iff.1 hv
    simp [repC] at hj hv'
    rw [← hv']; exact hsrc j hj) (by simp [repC]; omega) (repC_one c m)
  rw [show (repC c m).length = m by simp [repC]] at hr
  have hk : (cur.toList.take k).length = k := by rw [List.length_take, Array.length_toList]; omega
  refine ⟨_, hr, ⟨_, setRow_heap w M cur _ _ _ h1, ?_, ?_⟩, setRow_below hb hBM _⟩
  · simp [repC]; omega
  · rw [h3]
    simp only [repC, List.replicate_append_replicate]
    rw [List.take_append_of_le_length (by simp)]
    simp

/-- a copy whose run is known -/
theorem wpList_copyR {P : Program} {w : World} {ops : Array Oper} {rest : List Oper} {o : Oper} {a : Act} {Q : Exit → Act → World → Prop} {t t' ty : TypeId} {v u v' : Value} {w' : World}
    (hr : (Builtin.copy_ #[t, t'] ty #[v, u]).run P w = .ok v' w') {d s : Operand} (ho : o.op = .call { callee := .builtin .copy, args := #[d, s], argTypes := #[t, t'] }) (hty : o.type = ty) (hgd : Region.wanted o (yielded ops a.tmps) = true)
    (hd : a.eval d = v) (hs : a.eval s = u) (h : wpList P ops Q rest (a.put o.dst v') w') : wpList P ops Q (o :: rest) a w := by
  subst hty
  refine wpList_wanted hgd fun K hK => ?_
  unfold Oper.wp execOp
  simp only [ho, resolve, invoke, builtin, Sem.run_bind, Sem.run_pure, Result.andThen_ok, List.map_toArray, List.map_cons, List.map_nil, hd, hs, hr]
  exact hK _ _ h
theorem wp_copyR {P : Program} {w : World} {o : Oper} {a : Act} {K : Act → World → Prop} {Q : Exit → Act → World → Prop} {t t' ty : TypeId} {v u v' : Value} {w' : World}
    (hr : (Builtin.copy_ #[t, t'] ty #[v, u]).run P w = .ok v' w') {d s : Operand} (ho : o.op = .call { callee := .builtin .copy, args := #[d, s], argTypes := #[t, t'] }) (hty : o.type = ty)
    (hd : a.eval d = v) (hs : a.eval s = u) (h : K (a.put o.dst v') w') : o.wp P a w K Q := by
  subst hty
  unfold Oper.wp execOp
  simp only [ho, resolve, invoke, builtin, Sem.run_bind, Sem.run_pure, Result.andThen_ok, List.map_toArray, List.map_cons, List.map_nil, hd, hs, hr]
  exact h
theorem run_cutP {P : Program} {t e : Nat} (hu : P.underlying t = some (.slice e)) (hs : (P.info? e).map (·.size) = some 1) {ad : Option Addr} {n cap : Nat} (i : Nat) (hi : i ≤ n) (W : World) :
    (Instr.slice t (.slice ad n cap) (some (.int .i64 (i : Int))) none none).run P W = .ok (.slice (cutA ad i cap) (n - i) (cap - i)) W := by
  have hel : P.elem t = e := by simp [Program.elem, hu]
  rw [run_slice_l (P := P) W t ad n cap (by rw [hel]; exact hu) .i64 (i : Int) (by omega) (by omega), hel]
  have h1 : (sizeOf e).run P W = .ok 1 W := by
    cases h2 : P.info? e with
    | none => rw [h2] at hs; simp at hs
    | some inf => rw [h2] at hs; simp at hs; simp [sizeOf, typeInfo, h2, hs]
  rw [h1]
  simp [sliced, cutA]

set_option maxRecDepth 100000 in
set_option maxHeartbeats 2000000 in
theorem repeat_law (w : World) (a : Addr) (cap : Nat) (c : UInt8) (hs : Rd w 1 (some a) 1 cap (repC c 1)) (n : Nat) (hn : n ≤ 10000000) :
    Calls Try.prog 23 #[.slice (some a) 1 cap, .int .i64 (n : Int)] w fun e w' => ∃ ad cp, e = .returned (.slice ad n cp) ∧ Rd w' 1 ad n cp (repC c n) ∧ Below w.heap.size w w' := by
  go_enter Try.func23, Try.ntmps23
  by_cases h0 : n = 0
  · subst h0
    go_wp2_with fail
    go_ret
    exact ⟨some ⟨w.heap.size, 0, none⟩, 0, rfl, ⟨rfl, Nat.le_refl _, Nat.zero_le _, fun _ => rfl, by simp [repC], fun a ha j u hu => by simp [repC] at hu⟩, (Below.refl _ w).alloc (Nat.le_refl _) _⟩
  · have f0 : ((n : Int) == 0) = false := beq_eq_false_iff_ne.2 (by omega)
    have w1 : IntKind.u64.wrap (n : Int) = (n : Int) := Mul64.wrapN n (by omega)
    have w2 : IntKind.i64.wrap (n : Int) = (n : Int) := IntWalk.i64_in _ (by omega)
    have g0 : ¬ (n : Int) < 0 := by omega
    have g1 : ¬ (9223372036854775807 : Int) < (n : Int) := by omega
    obtain ⟨cs, hrunM, hle, hcm⟩ := Lib.run_makeNoZero (P := Try.prog) w #[3] 22 5 Try.underlying22 n (by omega)
    have hcall : (callFunc 33 #[.int .i64 (n : Int)]).run Try.prog w = .ok (.value (.slice (some ⟨w.heap.size, 0, none⟩) n cs.size)) ((w.alloc (.cells cs 5)).drewN 2) := by
      rw [run_callFunc_extern Try.func33 (by kernel_rfl) (by kernel_rfl) (by kernel_rfl) (e := Extern.BytealgMakeNoZero.makeNoZero #[3] #[22]) (by kernel_rfl), hrunM]
      rfl
    clear hrunM
    have hM := mul_one' w n (by omega)
    obtain ⟨M, hMM⟩ : ∃ M, w.heap.size = M := ⟨_, rfl⟩
    have b0 : Below M w ((w.alloc (.cells cs 5)).drewN 2) := by rw [← hMM]; exact bDraws ((Below.refl _ w).alloc (Nat.le_refl _) _) 2
    have hd0 : Head ((w.alloc (.cells cs 5)).drewN 2) M cs.size 0 c := ⟨cs, by rw [← hMM]; exact heap_alloc_new w _, rfl, by simp [repC]⟩
    have hs0 := hs.below (show Below w.heap.size w ((w.alloc (.cells cs 5)).drewN 2) by rw [hMM]; exact b0)
    have hsc : ∀ j, j < 1 → ((w.alloc (.cells cs 5)).drewN 2).cell? (a.add j) = some (.int .u8 (c.toNat : Int)) := fun j hj => by
      have : j = 0 := by omega
      subst this
      exact hs0.cell a rfl 0 _ rfl
    obtain ⟨W1, hr1, hd1, b1⟩ := head_copy hd0 a 1 n n 1 cap hsc (by simp [Nat.min_def]; omega) (by omega) b0 (Nat.le_refl _)
    have HD1 := Lib.hid hd1; clear hd1
    have B1 := Lib.hid b1; clear b1
    clear hd0 hs0 hs hsc b0
    rw [hMM] at hcall
    by_cases hbig : 8192 < n
    · have t8 : (8192 : Int) < (n : Int) := by omega
      obtain ⟨CM, hCM⟩ : ∃ CM, CM = 8192 := ⟨_, rfl⟩
      go_wp2_with (first
        | (refine hM.mono ?_; rintro e w2 ⟨rfl, rfl⟩)
        | (refine wpList_copyR hr1 rfl rfl rfl rfl rfl ?_))
      clear hM hcall hr1 t8 f0 w1 w2
      go_loopg [10] (n - 1) (fun gk i wr => ∃ p : Nat, 1 ≤ p ∧ p ≤ n ∧ gk = n - p ∧ i = .int .i64 (p : Int) ∧ Hid (Head wr M cs.size p c) ∧ Hid (Below M w wr))
      case atStart => exact ⟨1, Nat.le_refl _, by omega, rfl, rfl, HD1, B1⟩
      case round =>
        obtain ⟨p, hp1, hpn, rfl, rfl, hh, hb⟩ := hrel
        rename World => wr
        by_cases hlt : p < n
        · obtain ⟨ch, hch⟩ : ∃ ch, (if CM < p then CM else p) = ch := ⟨_, rfl⟩
          have hch1 : 1 ≤ ch ∧ ch ≤ p := by rw [← hch]; split <;> omega
          have hmin : ∀ ts t W, (Builtin.min_ ts t #[.int .i64 (p : Int), .int .i64 8192]).run Try.prog W = .ok (.int .i64 (ch : Int)) W := fun ts t W => by
            rw [run_min_int2, ← hch, hCM]; congr 2; split <;> split <;> omega
          clear hch
          obtain ⟨m, hm⟩ : ∃ m, m = Nat.min ch (n - p) := ⟨_, rfl⟩
          have hm1 : 1 ≤ m ∧ p + m ≤ n ∧ m ≤ ch := by rw [hm]; simp only [Nat.min_def]; split <;> omega
          have hdr : Head wr.drew M cs.size p c := hh.out
          obtain ⟨W2, hr2, hd2, b2⟩ := head_copy hdr ⟨M, 0, .none⟩ m (n - p) (n - p) ch n (fun j hj => by rw [Addr.add_lit, Nat.zero_add]; exact hdr.cell j (by omega)) hm (by omega) hb.out.drew (Nat.le_refl _)
          have sl1 : ∀ W, (Instr.slice 22 (.slice (some ⟨M, 0, .none⟩) n n) (some (.int .i64 (p : Int))) .none .none).run Try.prog W = .ok (.slice (some ⟨M, p, .none⟩) (n - p) (n - p)) W := fun W => by
            rw [run_cutP (P := Try.prog) Try.underlying22 (by kernel_rfl) p (by omega) W, cutA, if_neg (by omega)]
            simp [Addr.add_lit]
          obtain ⟨pm, hpm⟩ : ∃ pm, p + m = pm := ⟨_, rfl⟩
          have e1 : (p : Int) + (m : Int) = (pm : Int) := by omega
          have e2 : IntKind.i64.wrap (pm : Int) = (pm : Int) := IntWalk.i64_in _ (by omega)
          have hpm1 : p < pm ∧ pm ≤ n := by omega
          have hcn : ch ≤ n := by omega
          rw [hpm] at hd2
          have HD2 := Lib.hid hd2; clear hd2
          have B2 := Lib.hid b2; clear b2
          clear hm hm1 hdr hpm
          go_upto_region 20 with fail
          go_region_held3 (fun _ => True) (trivial) (first | (refine wp_copyR hr2 rfl rfl rfl rfl ?_))
          go_wp2_with fail
          go_roundg (n - pm)
          case measure => omega
          case rel => exact ⟨pm, by omega, hpm1.2, rfl, rfl, HD2, B2⟩
        · obtain rfl : p = n := by omega
          go_wp2_with fail
          go_ret
          exact ⟨_, _, rfl, ⟨by simp [repC], Nat.le_refl _, by unfold maxLen; omega, fun e => by simp at e, repC_one c _, fun a ha j u hu => by
            cases ha
            obtain ⟨hj, hv⟩ := List.getElem?_eq_some_iff.1 hu
            simp [repC] at hj hv
            rw [Addr.add_lit, Nat.zero_add, ← hv]; exact hh.out.cell j hj⟩, by rw [hMM]; exact hb.out⟩
    · have t8 : ¬ (8192 : Int) < (n : Int) := by omega
      obtain ⟨CM, hCM⟩ : ∃ CM, CM = n := ⟨_, rfl⟩
      go_wp2_with (first
        | (refine hM.mono ?_; rintro e w2 ⟨rfl, rfl⟩)
        | (refine wpList_copyR hr1 rfl rfl rfl rfl rfl ?_))
      clear hM hcall hr1 t8 f0 w1 w2
      go_loopg [10] (n - 1) (fun gk i wr => ∃ p : Nat, 1 ≤ p ∧ p ≤ n ∧ gk = n - p ∧ i = .int .i64 (p : Int) ∧ Hid (Head wr M cs.size p c) ∧ Hid (Below M w wr))
      case atStart => exact ⟨1, Nat.le_refl _, by omega, rfl, rfl, HD1, B1⟩
      case round =>
        obtain ⟨p, hp1, hpn, rfl, rfl, hh, hb⟩ := hrel
        rename World => wr
        by_cases hlt : p < n
        · obtain ⟨ch, hch⟩ : ∃ ch, (if CM < p then CM else p) = ch := ⟨_, rfl⟩
          have hch1 : 1 ≤ ch ∧ ch ≤ p := by rw [← hch]; split <;> omega
          have hmin : ∀ ts t W, (Builtin.min_ ts t #[.int .i64 (p : Int), .int .i64 (n : Int)]).run Try.prog W = .ok (.int .i64 (ch : Int)) W := fun ts t W => by
            rw [run_min_int2, ← hch, hCM]; congr 2; split <;> split <;> omega
          clear hch
          obtain ⟨m, hm⟩ : ∃ m, m = Nat.min ch (n - p) := ⟨_, rfl⟩
          have hm1 : 1 ≤ m ∧ p + m ≤ n ∧ m ≤ ch := by rw [hm]; simp only [Nat.min_def]; split <;> omega
          have hdr : Head wr.drew M cs.size p c := hh.out
          obtain ⟨W2, hr2, hd2, b2⟩ := head_copy hdr ⟨M, 0, .none⟩ m (n - p) (n - p) ch n (fun j hj => by rw [Addr.add_lit, Nat.zero_add]; exact hdr.cell j (by omega)) hm (by omega) hb.out.drew (Nat.le_refl _)
          have sl1 : ∀ W, (Instr.slice 22 (.slice (some ⟨M, 0, .none⟩) n n) (some (.int .i64 (p : Int))) .none .none).run Try.prog W = .ok (.slice (some ⟨M, p, .none⟩) (n - p) (n - p)) W := fun W => by
            rw [run_cutP (P := Try.prog) Try.underlying22 (by kernel_rfl) p (by omega) W, cutA, if_neg (by omega)]
            simp [Addr.add_lit]
          obtain ⟨pm, hpm⟩ : ∃ pm, p + m = pm := ⟨_, rfl⟩
          have e1 : (p : Int) + (m : Int) = (pm : Int) := by omega
          have e2 : IntKind.i64.wrap (pm : Int) = (pm : Int) := IntWalk.i64_in _ (by omega)
          have hpm1 : p < pm ∧ pm ≤ n := by omega
          have hcn : ch ≤ n := by omega
          rw [hpm] at hd2
          have HD2 := Lib.hid hd2; clear hd2
          have B2 := Lib.hid b2; clear b2
          clear hm hm1 hdr hpm
          go_upto_region 20 with fail
          go_region_held3 (fun _ => True) (trivial) (first | (refine wp_copyR hr2 rfl rfl rfl rfl ?_))
          go_wp2_with fail
          go_roundg (n - pm)
          case measure => omega
          case rel => exact ⟨pm, by omega, hpm1.2, rfl, rfl, HD2, B2⟩
        · obtain rfl : p = n := by omega
          go_wp2_with fail
          go_ret
          exact ⟨_, _, rfl, ⟨by simp [repC], Nat.le_refl _, by unfold maxLen; omega, fun e => by simp at e, repC_one c _, fun a ha j u hu => by
            cases ha
            obtain ⟨hj, hv⟩ := List.getElem?_eq_some_iff.1 hu
            simp [repC] at hj hv
            rw [Addr.add_lit, Nat.zero_add, ← hv]; exact hh.out.cell j hj⟩, by rw [hMM]; exact hb.out⟩
end Go.Proofs.Ytindbmfccgeikaa
