/- The stack of places: push, pop; the closure that asks. -/
import Derived.Test.YtnlemaaglbbdnaaNearI
import Derived.Test.YtnlemaaglbbdnaaSufB
namespace Go.Proofs.Ytnlemaaglbbdnaa
set_option linter.unusedSimpArgs false
set_option linter.unusedVariables false
open Go.RowKit Go.Shelf

/-- fewer elements of an owned slice -/
theorem Own.shrink {w : World} {e sz lo : Nat} {ad : Option Addr} {n cap : Nat} {cs : List Value} (h : Own w e sz lo ad n cap cs) {j : Nat} (hj : j ≤ n) : Own w e sz lo ad j cap (cs.take (j * sz)) := by
  obtain ⟨hl, hc⟩ := h.cases
  have hjn : j * sz ≤ n * sz := Nat.mul_le_mul_right _ hj
  have hlen : (cs.take (j * sz)).length = j * sz := by rw [List.length_take]; omega
  refine ⟨⟨hlen, ?_⟩, fun u hu => h.2 u (List.mem_of_mem_take hu)⟩
  rcases hc with ⟨rfl, rfl, rfl⟩ | ⟨g, cur, rfl, hb, hg, hn, hm, hs, ht⟩
  · left; obtain rfl : j = 0 := by omega
    exact ⟨rfl, rfl⟩
  · right; refine ⟨g, cap, cur, rfl, hb, hg, by omega, hm, hs, ?_⟩
    rw [← ht, List.take_take, Nat.min_eq_left hjn]

/-- what is owned lies in a block of cells -/
theorem Own.isCells {w : World} {e sz lo : Nat} {ad : Option Addr} {n cap : Nat} {cs : List Value} (h : Own w e sz lo ad n cap cs) {g : Nat} (hg : ad = some ⟨g, 0, none⟩) {o : Obj} (ho : w.heap[g]? = some o) : o.isCells = true := by
  obtain ⟨_, hc⟩ := h.cases
  rcases hc with ⟨rfl, _⟩ | ⟨g', cur, rfl, hb, hg', _⟩
  · cases hg
  · cases hg; rw [hg'] at ho; cases ho; rfl

theorem own_from {β : Type} (B e sz lo : Nat) (f : β → Option Addr) (n cap : β → Nat) (cs : β → List Value) : OwnFrom B (fun s W => Own W e sz lo (f s) (n s) (cap s) (cs s)) := fun s X Y row hs hg hr =>
  hs.other hg fun g hg' e' => by
    obtain ⟨_, o, ho, hc⟩ := hr g e'
    rw [hs.isCells hg' ho] at hc; cases hc

theorem grownBy_trans {a b c : World} {row : Option Nat} (h : a.grownBy b row) (k : b.grownBy c row) : a.grownBy c row :=
  ⟨k.os.trans h.os, k.tape.trans h.tape, k.output.trans h.output, Nat.le_trans h.size k.size, fun j hj hr => (k.block j (Nat.lt_of_lt_of_le hj h.size) hr).trans (h.block j hj hr)⟩

theorem N64_getD (xs : List Nat) (k : Nat) (h : k < xs.length) : (N64 xs)[k]? = some (.int .i64 ((xs.getD k 0 : Nat) : Int)) := by simp [N64, h]
theorem tS : ElTy Try.prog 72 3 (.int .i64 0) 1 8 := ⟨Try.underlying72, info_parts (by kernel_rfl), rfl, by decide⟩

set_option maxHeartbeats 1000000 in
/-- does a lesser number stand there? -/
theorem keep_law (w : World) (Bl Bv : Nat) (ad : Option Addr) (n cap k : Nat) (zs : List Int) (v : Int) (hl : w.cell? ⟨Bl, 0, none⟩ = some (.slice ad n cap)) (hv : w.cell? ⟨Bv, 0, none⟩ = some (.int .i64 v))
    (hz : Rd w 1 ad n cap (I64 zs)) (hk : k < n) :
    Calls Try.prog 46 #[.int .i64 k, .pointer (some ⟨Bl, 0, none⟩), .pointer (some ⟨Bv, 0, none⟩)] w fun e w' => e = .returned (.bool (decide (atI zs k < v))) ∧ w.drew = w' := by
  obtain ⟨hne, hc⟩ := hz.getI hk
  generalize atI zs k = c at *
  go_enter Try.func46, Try.ntmps46
  go_upto_region 1 with fail
  refine region_still (by kernel_rfl) (by kernel_rfl) ?_
  go_wp2_with (first | (refine still_wp rfl rfl ?_; intro _ _) | (refine wpStill_nil ?_))
  go_ret
  exact ⟨rfl, rfl⟩

set_option maxHeartbeats 1000000 in
theorem push_law (w : World) (Bs lo : Nat) (ad : Option Addr) (n cap k : Nat) (st : List Nat) (hs : Boxed w Bs 72 (.slice ad n cap)) (ho : Own w 3 1 lo ad n cap (N64 st)) (hBs : Bs < lo) (hlo : lo ≤ w.heap.size) (hn : n ≤ 1000000) :
    Calls Try.prog 44 #[.pointer (some ⟨Bs, 0, none⟩), .int .i64 k] w fun e w' => (∃ v, e = .returned v) ∧ ∃ ad' cap' w1, Boxed w' Bs 72 (.slice ad' (n + 1) cap') ∧ Own w' 3 1 lo ad' (n + 1) cap' (N64 (st ++ [k])) ∧
      w.grownBy w1 (bOf ad) ∧ w1.grownBy w' (some Bs) := by
  have hsc := hs.cell
  have hsf := hs.frozen
  have hby : (n + 1) * 8 ≤ 140737488355328 := by omega
  have h63 : n + 1 ≤ maxLen := by unfold maxLen; omega
  have hnb : some Bs ≠ bOf ad := by
    intro e
    cases ad with
    | none => cases e
    | some x =>
      obtain ⟨_, hc⟩ := ho.cases
      rcases hc with ⟨h, _⟩ | ⟨g, cur, h, hb, _⟩
      · cases h
      · cases h; simp [bOf] at e; omega
  have H1 := Lib.hid hby; clear hby
  have H2 := Lib.hid h63; clear h63
  go_enter Try.func44, Try.ntmps44
  go_wp2_with (refine wpList_push rfl _ _ _ rfl tS rfl rfl ho (ys := [.int .i64 (k : Int)]) rfl (by simp [Value.oneCell']) H2.out H1.out hlo ?_; intro ad' cap' w1 hown hgr hnew; have hbx := hs.kept hgr hnb; have hc1 := hbx.cell; have hf1 := hbx.frozen)
  · go_end0
    refine ⟨⟨_, rfl⟩, ad', cap', w1, hbx.set _, ?_, hgr, grownBy_setCell' _ _ _⟩
    refine Own.setOther ?_ _ _ ?_
    · rw [← N64_app]; exact hown
    · intro g hg
      have := hown.blk hg
      simp; omega

set_option maxHeartbeats 2000000 in
theorem pop_law (w : World) (Bs Bl Bv lo : Nat) (ad : Option Addr) (n cap : Nat) (st : List Nat) (hs : Boxed w Bs 72 (.slice ad n cap)) (ho : Own w 3 1 lo ad n cap (N64 st)) (hBs : Bs < lo)
    (zd : Option Addr) (zn zc : Nat) (zs : List Int) (v : Int) (v0 : Int) (hl : w.cell? ⟨Bl, 0, none⟩ = some (.slice zd zn zc)) (hv : w.cell? ⟨Bv, 0, none⟩ = some (.int .i64 v)) (hz : Rd w 1 zd zn zc (I64 zs)) (hzb : ∀ a, zd = some a → a.block ≠ Bs)
    (hBl : Bl ≠ Bs) (hBv : Bv ≠ Bs) (hin : ∀ i, i < n → st.getD i 0 < zn) :
    Calls Try.prog 45 #[.pointer (some ⟨Bs, 0, none⟩), .func (.func 46) #[] #[.pointer (some ⟨Bl, 0, none⟩), .pointer (some ⟨Bv, 0, none⟩)], .int .i64 v0] w fun e w' =>
      ∃ j, j ≤ n ∧ e = .returned (.int .i64 (if j = 0 then v0 else (st.getD (j - 1) 0 : Nat))) ∧ Boxed w' Bs 72 (.slice ad j cap) ∧ w.grownBy w' (some Bs) ∧ w'.heap.size = w.heap.size ∧
        (∀ i, j ≤ i → i < n → v ≤ atI zs (st.getD i 0)) ∧ (0 < j → atI zs (st.getD (j - 1) 0) < v) := by
  have hsc := hs.cell
  have hcapM : n ≤ 9223372036854775807 := by have := ho.rd.ncap; have := ho.rd.capM; unfold maxLen at this; omega
  have hlen : st.length = n := by have := ho.rd.len; rw [N64_len] at this; omega
  have HL := Lib.hid hlen; clear hlen
  go_enter Try.func45, Try.ntmps45
  go_wp2_with fail
  go_loopg [7] n (fun k l wr => k ≤ n ∧ l = .slice ad k cap ∧ Boxed wr Bs 72 (.slice ad k cap) ∧ w.grownBy wr (some Bs) ∧ Hid (wr.heap.size = w.heap.size) ∧ (∀ i, k ≤ i → i < n → v ≤ atI zs (st.getD i 0)))
  case atStart => exact ⟨Nat.le_refl _, rfl, hs, World.grownBy.refl _ _, Lib.hid rfl, fun i h1 h2 => by omega⟩
  case round =>
    obtain ⟨hk, rfl, hbx, hgr, hsz, hpop⟩ := hrel
    have hcx := hbx.cell
    have hfx := hbx.frozen
    have hox := ho.shrink hk
    by_cases h0 : gk = 0
    · subst h0
      go_wp2_with fail
      go_ret
      exact ⟨0, Nat.zero_le _, rfl, hbx, hgr, hsz, hpop, fun h => by omega⟩
    · obtain ⟨g, rfl⟩ : ∃ g, ad = some ⟨g, 0, none⟩ := by
        obtain ⟨_, hc⟩ := ho.cases
        rcases hc with ⟨_, h, _⟩ | ⟨g, cur, h, _⟩
        · omega
        · exact ⟨g, h⟩
      have hgb := ho.blk rfl
      have hcg : wr.cell? ⟨g, gk - 1, none⟩ = some (.int .i64 ((st.getD (gk - 1) 0 : Nat) : Int)) := by
        have h1 := ho.read (N64_getD st (gk - 1) (by have := HL.out; omega))
        rw [World.cell?_of_block (w := w) (hgr.block g hgb.2 (by simp; omega))]; exact h1.1
      obtain ⟨i, rfl⟩ : ∃ i, gk = i + 1 := ⟨gk - 1, by omega⟩
      simp only [Nat.add_sub_cancel] at hcg
      have hlw : wr.cell? ⟨Bl, 0, none⟩ = some (.slice zd zn zc) := (World.cell?_of_block (hgr.block Bl (World.block_lt_of_cell? w _ hl) (by simp; omega))).trans hl
      have hvw : wr.cell? ⟨Bv, 0, none⟩ = some (.int .i64 v) := (World.cell?_of_block (hgr.block Bv (World.block_lt_of_cell? w _ hv) (by simp; omega))).trans hv
      have hzw : Rd wr 1 zd zn zc (I64 zs) := hz.keep fun a ha => hgr.block _ (by
        by_cases hz0 : 0 < zn
        · have h1 := (hz.getI hz0).2
          subst ha
          have := World.block_lt_of_cell? w _ h1
          rw [sAt_some, add_block] at this; exact this
        · have := hin i (by omega); omega) (by have := hzb a ha; simp; omega)
      have hik := hin i (by omega)
      generalize hsti : st.getD i 0 = si at *
      have HI := Lib.hid hsti; clear hsti
      go_wp2_with fail
      refine (keep_law wr Bl Bv zd zn zc si zs v hlw hvw hzw hik).mono ?_
      rintro e w1 ⟨rfl, rfl⟩
      have hsn := (show Boxed wr.drew Bs _ _ from hbx).cell
      have hsm := (show Boxed wr.drew Bs _ _ from hbx).frozen
      have hcg' : wr.drew.cell? ⟨g, i, none⟩ = some (.int .i64 (si : Int)) := hcg
      have hgr' : w.grownBy wr.drew (some Bs) := ⟨hgr.os, hgr.tape, hgr.output, hgr.size, hgr.block⟩
      have hbx' : Boxed wr.drew Bs 72 (.slice (some ⟨g, 0, none⟩) (i + 1) cap) := hbx
      have hsz' : Hid (wr.drew.heap.size = w.heap.size) := hsz
      generalize wr.drew = w1 at *
      have hcap : i + 1 ≤ cap := hox.rd.ncap
      have hcapM : cap ≤ 9223372036854775807 := by have := hox.rd.capM; unfold maxLen at this; omega
      by_cases hlt : atI zs si < v
      · have hd : decide (atI zs si < v) = true := by simp [hlt]
        generalize decide (atI zs si < v) = d at *
        subst hd
        go_wp2_with fail
        go_ret
        refine ⟨i + 1, by omega, ?_, hbx', hgr', hsz'.out, fun k h1 h2 => hpop k h1 h2, fun _ => ?_⟩
        · simp only [Nat.add_sub_cancel]; rw [HI.out]; simp
        · simp only [Nat.add_sub_cancel]; rw [HI.out]; exact hlt
      · have hd : decide (atI zs si < v) = false := by simp [hlt]
        generalize decide (atI zs si < v) = d at *
        subst hd
        go_wp2_with fail
        go_roundg i
        case rel =>
          refine ⟨by omega, rfl, hbx'.set _, grownBy_trans hgr' (grownBy_setCell' _ _ _), Lib.hid (by rw [World.size_setCell]; exact hsz'.out), fun k h1 h2 => ?_⟩
          by_cases hki : k = i
          · subst hki; rw [HI.out]; omega
          · exact hpop k (by omega) h2
        case measure => omega
end Go.Proofs.Ytnlemaaglbbdnaa
