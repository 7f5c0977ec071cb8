/- What the laws of factor share: known answers; the document's lengths. -/
import Derived.Test.YtnlemaaglbbdnaaFacF
import Derived.Laws.StructEq
namespace Go.Proofs.Ytnlemaaglbbdnaa
set_option linter.unusedSimpArgs false
set_option linter.unusedVariables false
open Go.RowKit Go.Shelf

theorem rstr {w : World} {ad : Option Addr} {n cap : Nat} {xs : List UInt8} (h : Rd w 1 ad n cap (B8 xs)) : (convert 22 9 (.slice ad n cap)).run Try.prog w = .ok (.string (bstr xs)) w :=
  run_str Try.underlying22 Try.underlying5 Try.underlying9 h
theorem Rd.lit8 (w : World) (fr : Nat × Nat) (b : List UInt8) (hl : b.length ≤ 100000) : Rd (w.alloc (.cells (B8 b).toArray 5 fr)) 1 (some ⟨w.heap.size, 0, none⟩) b.length b.length (B8 b) :=
  Rd.rowM w 5 1 b.length fr (B8 b) (by rw [B8_len]; omega) (by unfold maxLen; omega) (B8_one b)

section
attribute [local go_sem] Oper.semAt_some
theorem eq_tok (w : World) (a b c : Int) : (Op.equalIn 10000 31 (.agg #[.int .i64 a, .int .i64 b, .int .u8 c]) (.agg #[.int .i64 a, .int .i64 b, .int .u8 c])).run Try.prog w = .ok true w := by
  have u3 := Try.underlying3
  have u5 := Try.underlying5
  have a3 := Try.isAgg3
  have a5 := Try.isAgg5
  rw [show (10000 : Nat) = 9999 + 1 from rfl, run_equalIn_struct w 9999 31 _ _ (by kernel_rfl) (by kernel_rfl)]
  rw [show (Try.prog.fieldsOf 31).toList = [(Try.prog.fieldsOf 31)[0]!, (Try.prog.fieldsOf 31)[1]!, (Try.prog.fieldsOf 31)[2]!] by kernel_rfl]
  have t0 : ((Try.prog.fieldsOf 31)[0]!).type = 3 := by kernel_rfl
  have t1 : ((Try.prog.fieldsOf 31)[1]!).type = 3 := by kernel_rfl
  have t2 : ((Try.prog.fieldsOf 31)[2]!).type = 5 := by kernel_rfl
  have o0 : ((Try.prog.fieldsOf 31)[0]!).offset = 0 := by kernel_rfl
  have o1 : ((Try.prog.fieldsOf 31)[1]!).offset = 1 := by kernel_rfl
  have o2 : ((Try.prog.fieldsOf 31)[2]!).offset = 2 := by kernel_rfl
  have n0 : ((Try.prog.fieldsOf 31)[0]!).name ≠ "_" := by decide +kernel
  have n1 : ((Try.prog.fieldsOf 31)[1]!).name ≠ "_" := by decide +kernel
  have n2 : ((Try.prog.fieldsOf 31)[2]!).name ≠ "_" := by decide +kernel
  generalize (Try.prog.fieldsOf 31)[0]! = f0 at *
  generalize (Try.prog.fieldsOf 31)[1]! = f1 at *
  generalize (Try.prog.fieldsOf 31)[2]! = f2 at *
  simp only [Op.eqFields, t0, t1, t2, o0, o1, o2, if_pos n0, if_pos n1, if_pos n2]
  go_simp
theorem neq_tok (w : World) (a b c : Int) : (binOp .neq 31 (.agg #[.int .i64 a, .int .i64 b, .int .u8 c]) (.agg #[.int .i64 a, .int .i64 b, .int .u8 c])).run Try.prog w = .ok (.bool false) w := by
  rw [run_neq_struct, eq_tok]; rfl
theorem eql_tok (w : World) (a b c : Int) : (binOp .eql 31 (.agg #[.int .i64 a, .int .i64 b, .int .u8 c]) (.agg #[.int .i64 a, .int .i64 b, .int .u8 c])).run Try.prog w = .ok (.bool true) w := by
  rw [run_eql_struct, eq_tok]; rfl
end

/-- no repetition: the byte -/
theorem facT_none {b : List UInt8} {o : List Nat} (ho : Ordered b false o) {i : Nat} (hi : i < b.length) (h : ∀ d, d < i + 1 → 1 ≤ d → d ≤ 32768 → com b (i - d) i < 3) : facT b o 0 i = ⟨0, 0, at8 b i⟩ :: facT b o 0 (i + 1) := by
  refine facT_lit b o 0 i hi ?_
  rcases lng_rp ho 0 hi with h1 | ⟨a1, a2, a3, a4, a5, a6⟩
  · exact h1
  · have := h _ (by omega) a3 a4; omega
/-- the longest -/
theorem facT_some {b : List UInt8} {o : List Nat} (ho : Ordered b false o) {i : Nat} (hi : i < b.length) {m d : Nat} (h3 : 3 ≤ m) (h1 : 1 ≤ d) (h2 : d ≤ i) (hw : d ≤ 32768) (hm : min (com b (i - d) i) 258 = m) (hmax : ∀ d', d' < i + 1 → 1 ≤ d' → d' ≤ 32768 → min (com b (i - d') i) 258 ≤ m) :
    ∃ d', 1 ≤ d' ∧ d' ≤ i ∧ d' ≤ 32768 ∧ m ≤ com b (i - d') i ∧ facT b o 0 i = ⟨m, d', 0⟩ :: facT b o 0 (i + m) := by
  have h4 := lng_max ho (i := i) (j := i - d) hi (by omega) (by omega)
  rcases lng_rp ho 0 hi with e | ⟨a1, a2, a3, a4, a5, a6⟩
  · omega
  · have := hmax _ (by omega) a3 a4
    have e : (lng b o 0 i).1 = m := by omega
    have hr := facT_rep b o 0 i hi (by omega)
    rw [e] at hr a6
    exact ⟨_, a3, a5, a4, a6, hr⟩
theorem facT_one {b : List UInt8} {o : List Nat} (ho : Ordered b false o) {i : Nat} (hi : i < b.length) {m d : Nat} (h3 : 3 ≤ m) (h1 : 1 ≤ d) (h2 : d ≤ i) (hw : d ≤ 32768) (hm : min (com b (i - d) i) 258 = m) (hmax : ∀ d', d' < i + 1 → 1 ≤ d' → d' ≤ 32768 → d' ≠ d → com b (i - d') i < m) :
    facT b o 0 i = ⟨m, d, 0⟩ :: facT b o 0 (i + m) := by
  obtain ⟨d', a1, a2, a3, a4, a5⟩ := facT_some ho hi h3 h1 h2 hw hm (fun d' b1 b2 b3 => by
    by_cases e : d' = d
    · subst e; omega
    · have := hmax d' b1 b2 b3 e; omega)
  by_cases e : d' = d
  · subst e; exact a5
  · have := hmax d' (by omega) a1 a3 e; omega

theorem factor_known (w : World) (fr : Nat × Nat) (b : List UInt8) (hl : b.length ≤ 98304) (o : List Nat) (ho : Ordered b false o) (f : Nat) (hf : f ≤ b.length) (ts : List Tok) (hts : facT b o 0 f = ts) (m : Nat) (hm : ts.length = m) :
    Calls Try.prog 8 #[.slice (some ⟨w.heap.size, 0, none⟩) b.length b.length, .int .i64 (f : Int), .int .i64 0] (w.alloc (.cells (B8 b).toArray 5 fr)) fun e w' =>
      ∃ a c, e = .returned (.tuple #[.slice a m c, .int .i64 0]) ∧ Own w' 31 3 w.heap.size a m c (T3 ts) ∧ Below w.heap.size w w' :=
  (factor_law _ _ _ _ b (Rd.lit8 w fr b (by omega)) hl o ho f hf 0 (by decide)).mono fun e w' ⟨a, c, h1, h2, h3⟩ => by
    rw [hts] at h1 h2
    subst hm
    exact ⟨a, c, h1, h2.lower (by simp), ((Below.refl _ w).alloc (Nat.le_refl _) _).trans (h3.mono (by simp))⟩
theorem own_some {w : World} {e sz lo n cap : Nat} {a : Option Addr} {cs : List Value} (h : Own w e sz lo a n cap cs) (hn : 0 < n) : ∃ g, a = some ⟨g, 0, none⟩ ∧ lo ≤ g := by
  obtain ⟨_, hc⟩ := h.cases
  rcases hc with ⟨h1, h2, h3⟩ | ⟨g, cur, h1, hb, _⟩
  · omega
  · exact ⟨g, h1, hb⟩

theorem ordE (b : List UInt8) : ∃ o, Ordered b false o := Ordered.exists b false
theorem tell {o : List Nat} (ho : Ordered [97, 98, 97, 98, 97, 98, 99] false o) : facT [97, 98, 97, 98, 97, 98, 99] o 0 0 = [⟨0, 0, 97⟩, ⟨0, 0, 98⟩, ⟨4, 2, 0⟩, ⟨0, 0, 99⟩] := by
  rw [facT_none ho (by decide) (by decide +kernel), facT_none ho (by decide) (by decide +kernel), facT_one (m := 4) (d := 2) ho (by decide) (by decide) (by decide) (by decide) (by decide) (by decide +kernel) (by decide +kernel),
    facT_none ho (by decide) (by decide +kernel), facT_end _ _ _ _ (by decide)]
  rfl

set_option maxRecDepth 100000 in
set_option maxHeartbeats 2000000 in
theorem tells_any (w : World) : Calls Try.prog 9 #[] w fun e w' => e = .returned (.bool true) ∧ Below w.heap.size w w' := by
  have kc := fun (w : World) (C : Array Value) (n c : Nat) => Lib.run_convert_bytes_const (P := Try.prog) w 22 5 C n c Try.underlying22 Try.underlying5
  obtain ⟨o, ho⟩ := ordE [97, 98, 97, 98, 97, 98, 99]
  go_enter Try.func9, Try.ntmps9
  go_wp2_with fail
  refine (factor_known w _ [97, 98, 97, 98, 97, 98, 99] (by decide) o ho 0 (by decide) _ (tell ho) 4 rfl).mono ?_
  rintro e w1 ⟨a, c, rfl, o1, b1⟩
  obtain ⟨g, rfl, _⟩ := own_some o1 (by decide)
  have rd := o1.rd
  have c2 := rd.cellAt (j := 2) rfl
  have c6 := rd.cellAt (j := 6) rfl
  have c7 := rd.cellAt (j := 7) rfl
  have c8 := rd.cellAt (j := 8) rfl
  have c11 := rd.cellAt (j := 11) rfl
  rw [sAt_lit] at c2 c6 c7 c8 c11
  have eqt := fun w => eql_tok w 4 2 0
  clear ho o1 rd
  go_wp2_with fail
  go_ret
  exact ⟨rfl, b1⟩
end Go.Proofs.Ytnlemaaglbbdnaa
