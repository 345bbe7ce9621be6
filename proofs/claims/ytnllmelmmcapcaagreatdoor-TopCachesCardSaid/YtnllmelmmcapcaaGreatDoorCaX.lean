/- TopCaches: the beginning, walked by hand: the answer's bytes are cut, the number is made one from 20 to 119. -/
import Derived.Test.YtnllmelmmcapcaaGreatDoorCaW
import Derived.WalkSpells
namespace Go.Proofs.YtnllmelmmcapcaaGreatDoor
open Go Go.RowKit
set_option linter.unusedVariables false

def among (n : Int) (m : Int) : Int := (n % 18446744073709551616) % m
theorem among_range (n m : Int) (hm : 0 < m) : 0 ≤ among n m ∧ among n m < m := ⟨Int.emod_nonneg _ (by omega), Int.emod_lt_of_pos _ hm⟩
theorem among_any (n m : Int) (w : World) (h0 : 0 < m) (h1 : m ≤ 9223372036854775807) : Calls Tryz.prog 6 #[.int .i64 n, .int .i64 m] w fun e w' => e = .returned (.int .i64 (among n m)) ∧ w = w' := by
  have hr := among_range n m h0
  go_enter Tryz.func6, Tryz.ntmps6
  go_wp2
  go_ret
  refine ⟨ret_int ?_, rfl⟩
  have e1 : (IntKind.u64.wrap n).tmod m = among n m := by
    rw [IntKind.wrap_u64, Int.tmod_eq_emod_of_nonneg (Int.emod_nonneg _ (by omega))]; rfl
  rw [e1]
  exact IntWalk.wrap64_in _ (by omega)
end Go.Proofs.YtnllmelmmcapcaaGreatDoor
namespace Go.Proofs.YtnllmelmmcapcaaGreatDoor.Ev
open Go Go.RowKit
set_option linter.unusedVariables false
set_option maxRecDepth 100000

theorem eval_tmp {a : Act} {t : Nat} {v : Value} (h : a.tmps[t]? = some v) : a.eval (.tmp t) = v := by
  simp [Act.eval, Array.getD_eq_getD_getElem?, h]

theorem eval_const (a : Act) (v : Value) : a.eval (.const v) = v := rfl

/-- The first two of 99 places hold a text and a number. -/
structure St (a : Act) (b : ByteArray) (v : Int) : Prop where
  size : a.tmps.size = 99
  defers : a.defers = []
  t0 : a.tmps[0]? = some (.string b)
  t1 : a.tmps[1]? = some (.int .i64 v)
theorem St.put {a : Act} {b : ByteArray} {v : Int} (h : St a b v) {d : Nat} (hd : 2 ≤ d) (u : Value) : St (a.put (some d) u) b v :=
  ⟨by simp [Act.put, h.size], by simp [Act.put, h.defers], by rw [put_ne (by omega)]; exact h.t0, by rw [put_ne (by omega)]; exact h.t1⟩
theorem St.put0 {a : Act} {b : ByteArray} {v : Int} (h : St a b v) (c : ByteArray) : St (a.put (some 0) (.string c)) c v :=
  ⟨by simp [Act.put, h.size], by simp [Act.put, h.defers], put_at (by rw [h.size]; omega), by rw [put_ne (by omega)]; exact h.t1⟩
theorem St.put1 {a : Act} {b : ByteArray} {v : Int} (h : St a b v) (u : Int) : St (a.put (some 1) (.int .i64 u)) b u :=
  ⟨by simp [Act.put, h.size], by simp [Act.put, h.defers], by rw [put_ne (by omega)]; exact h.t0, put_at (by rw [h.size]; omega)⟩

theorem wp_val {ops : Array Oper} {Q : Exit → Act → World → Prop} {o : Oper} {d : Option Tmp} {l : List Oper} {a : Act} {w : World} {v : Value} (hg : o.guard = none) (hd : o.dst = d) (he : (execOp a.eval o).run Tryz.prog w = .ok (.value v) w)
    (h : wpList Tryz.prog ops Q l (a.put d v) w) : wpList Tryz.prog ops Q (o :: l) a w := by
  unfold wpList
  rw [if_pos (by simp [Region.wanted, hg])]
  refine .inl (Oper.wp_noQ ?_)
  unfold Oper.wp
  refine upon_false he ?_
  rw [hd]
  exact h

noncomputable def p0 : Code := nthC 0 cT
noncomputable def p1a : Code := fstC (nthC 1 cT)
noncomputable def p1b : Code := match sndC (nthC 1 cT) with | .cond _ x _ => x | c => c
noncomputable def p2 : Code := nthC 2 cT
theorem p0_eq : nthC 0 cT = .region 0 #[nthO 0 p0] false := by kernel_rfl
theorem p1_eq : nthC 1 cT = .seq (.region 1 #[nthO 0 p1a, nthO 1 p1a, nthO 2 p1a] false) (.cond (.tmp 15) (.region 2 #[nthO 0 p1b, nthO 1 p1b, nthO 2 p1b] false) .skip) := by kernel_rfl
theorem p2_eq : nthC 2 cT = .region 3 #[nthO 0 p2, nthO 1 p2, nthO 2 p2, nthO 3 p2] false := by kernel_rfl
theorem o00 : (nthO 0 p0).op = .assign (.const (.bool false)) ∧ (nthO 0 p0).dst = some 4 ∧ (nthO 0 p0).guard = none := ⟨by kernel_rfl, by kernel_rfl, by kernel_rfl⟩
theorem oa0 : (nthO 0 p1a).op = .move (.tmp 0) ∧ (nthO 0 p1a).dst = some 13 ∧ (nthO 0 p1a).guard = none := ⟨by kernel_rfl, by kernel_rfl, by kernel_rfl⟩
theorem oa1 : (nthO 1 p1a).op = .call { callee := .builtin .len, args := #[.tmp 13], argTypes := #[9] } ∧ (nthO 1 p1a).dst = some 14 ∧ (nthO 1 p1a).guard = none := ⟨by kernel_rfl, by kernel_rfl, by kernel_rfl⟩
theorem oa2 : (nthO 2 p1a).op = .binOp .gtr 3 (.tmp 14) (.const (.int .i64 40)) 3 ∧ (nthO 2 p1a).dst = some 15 ∧ (nthO 2 p1a).guard = none := ⟨by kernel_rfl, by kernel_rfl, by kernel_rfl⟩
theorem ob0 : (nthO 0 p1b).op = .move (.tmp 0) ∧ (nthO 0 p1b).dst = some 16 ∧ (nthO 0 p1b).guard = none := ⟨by kernel_rfl, by kernel_rfl, by kernel_rfl⟩
theorem ob1 : (nthO 1 p1b).op = .slice 9 (.tmp 16) none (some (.const (.int .i64 40))) none ∧ (nthO 1 p1b).dst = some 17 ∧ (nthO 1 p1b).guard = none := ⟨by kernel_rfl, by kernel_rfl, by kernel_rfl⟩
theorem ob2 : (nthO 2 p1b).op = .assign (.tmp 17) ∧ (nthO 2 p1b).dst = some 0 ∧ (nthO 2 p1b).guard = none := ⟨by kernel_rfl, by kernel_rfl, by kernel_rfl⟩
theorem oc0 : (nthO 0 p2).op = .move (.tmp 1) ∧ (nthO 0 p2).dst = some 18 ∧ (nthO 0 p2).guard = none := ⟨by kernel_rfl, by kernel_rfl, by kernel_rfl⟩
theorem oc1 : (nthO 1 p2).op = .call { callee := .value (.func 6), args := #[.tmp 18, .const (.int .i64 100)], argTypes := #[3, 3] } ∧ (nthO 1 p2).dst = some 19 ∧ (nthO 1 p2).guard = none := ⟨by kernel_rfl, by kernel_rfl, by kernel_rfl⟩
theorem oc2 : (nthO 2 p2).op = .binOp .add 3 (.const (.int .i64 20)) (.tmp 19) 3 ∧ (nthO 2 p2).dst = some 20 ∧ (nthO 2 p2).guard = none := ⟨by kernel_rfl, by kernel_rfl, by kernel_rfl⟩
theorem oc3 : (nthO 3 p2).op = .assign (.tmp 20) ∧ (nthO 3 p2).dst = some 1 ∧ (nthO 3 p2).guard = none := ⟨by kernel_rfl, by kernel_rfl, by kernel_rfl⟩

theorem p0_wp {a : Act} {b : ByteArray} {v : Int} {w : World} {Q : Exit → Act → World → Prop} (h : St a b v) (hQ : ∀ a', St a' b v → Q .normal a' w) : (nthC 0 cT).wp Tryz.prog Q a w := by
  rw [p0_eq]
  refine wp_region_list (wp_val o00.2.2 o00.2.1 (v := .bool false) (by simp [execOp, o00.1, Act.eval]) ?_)
  exact hQ _ (h.put (by omega) _)

/-- The text, cut. -/
def cut40 (b : ByteArray) : ByteArray := if b.size ≤ 40 then b else b.extract 0 40
theorem cut40_size (b : ByteArray) : (cut40 b).size ≤ 40 := by
  unfold cut40
  split
  · assumption
  · simp; omega

theorem p1_wp {a : Act} {b : ByteArray} {v : Int} {w : World} {Q : Exit → Act → World → Prop} (h : St a b v) (hQ : ∀ a', St a' (cut40 b) v → Q .normal a' w) : (nthC 1 cT).wp Tryz.prog Q a w := by
  rw [p1_eq]
  have u9 : Tryz.prog.underlying 9 = some .string := by kernel_rfl
  have s1 := h.put (d := 13) (by omega) (.string b)
  have s2 := s1.put (d := 14) (by omega) (.int .i64 b.size)
  have s3 := s2.put (d := 15) (by omega) (.bool (decide ((b.size : Int) > 40)))
  refine wp_seq (wp_region_list (wp_val oa0.2.2 oa0.2.1 (v := .string b) (by simp [execOp, oa0.1, eval_tmp h.t0]) (wp_val oa1.2.2 oa1.2.1 (v := .int .i64 b.size) ?_ (wp_val oa2.2.2 oa2.2.1 (v := .bool (decide ((b.size : Int) > 40))) ?_ ?_))))
  · have e : (a.put (some 13) (.string b)).eval (.tmp 13) = .string b := eval_tmp (put_at (by rw [h.size]; omega))
    simp [execOp, oa1.1, resolve, invoke, builtin, Builtin.len_, e, run_underlying u9, goInt, Result.andThen]
  · have e : ((a.put (some 13) (.string b)).put (some 14) (.int .i64 b.size)).eval (.tmp 14) = .int .i64 b.size := eval_tmp (put_at (by rw [s1.size]; omega))
    simp [execOp, oa2.1, e, eval_const, eqGuard, binOp, Op.intCmp]
  · show Code.wp _ _ _ _ _
    have e15 : (((a.put (some 13) (.string b)).put (some 14) (.int .i64 b.size)).put (some 15) (.bool (decide ((b.size : Int) > 40)))).eval (.tmp 15) = .bool (decide ((b.size : Int) > 40)) := eval_tmp (put_at (by rw [s2.size]; omega))
    by_cases hb : b.size ≤ 40
    · have hd : decide ((b.size : Int) > 40) = false := by simp; omega
      refine wp_cond_false (by rw [e15, hd]) (wp_skip ?_)
      refine hQ _ ?_
      have : cut40 b = b := by unfold cut40; rw [if_pos hb]
      rw [this]; exact s3
    · have hd : decide ((b.size : Int) > 40) = true := by simp; omega
      have hc : cut40 b = b.extract 0 40 := by unfold cut40; rw [if_neg hb]
      have s4 := s3.put (d := 16) (by omega) (.string b)
      have s5 := s4.put (d := 17) (by omega) (.string (b.extract 0 40))
      have s6 := s5.put0 (b.extract 0 40)
      refine wp_cond_true (by rw [e15, hd]) (wp_region_list (wp_val ob0.2.2 ob0.2.1 (v := .string b) (by simp [execOp, ob0.1, eval_tmp s3.t0]) (wp_val ob1.2.2 ob1.2.1 (v := .string (b.extract 0 40)) ?_ (wp_val ob2.2.2 ob2.2.1 (v := .string (b.extract 0 40)) ?_ ?_))))
      · have e : ((((a.put (some 13) (.string b)).put (some 14) (.int .i64 b.size)).put (some 15) (.bool (decide ((b.size : Int) > 40)))).put (some 16) (.string b)).eval (.tmp 16) = .string b := eval_tmp (put_at (by rw [s3.size]; omega))
        have hs := run_slice_string_h (P := Tryz.prog) (w := w) (t := 9) (s := b) u9 .i64 40 (by omega) (by omega)
        simp only [execOp, ob1.1, e, Option.map_none, Option.map_some, eval_const]
        simp [Instr.sliceAt, hs, Result.andThen]
      · have e : (((((a.put (some 13) (.string b)).put (some 14) (.int .i64 b.size)).put (some 15) (.bool (decide ((b.size : Int) > 40)))).put (some 16) (.string b)).put (some 17) (.string (b.extract 0 40))).eval (.tmp 17) = .string (b.extract 0 40) := eval_tmp (put_at (by rw [s4.size]; omega))
        simp [execOp, ob2.1, e]
      · exact hQ _ (by rw [hc]; exact s6)

theorem p2_wp {a : Act} {b : ByteArray} {v : Int} {w : World} {Q : Exit → Act → World → Prop} (h : St a b v) (hQ : ∀ a', St a' b (20 + among v 100) → Q .normal a' w) : (nthC 2 cT).wp Tryz.prog Q a w := by
  rw [p2_eq]
  have hr := among_range v 100 (by omega)
  have s1 := h.put (d := 18) (by omega) (.int .i64 v)
  have s2 := s1.put (d := 19) (by omega) (.int .i64 (among v 100))
  have s3 := s2.put (d := 20) (by omega) (.int .i64 (20 + among v 100))
  refine wp_region_list (wp_val oc0.2.2 oc0.2.1 (v := .int .i64 v) (by simp [execOp, oc0.1, eval_tmp h.t1]) ?_)
  unfold wpList
  rw [if_pos (by simp [Region.wanted, oc1.2.2])]
  refine .inl (Oper.wp_noQ ?_)
  unfold Oper.wp
  have e18 : (a.put (some 18) (.int .i64 v)).eval (.tmp 18) = .int .i64 v := eval_tmp (put_at (by rw [h.size]; omega))
  have ec : (execOp (a.put (some 18) (.int .i64 v)).eval (nthO 1 p2)).run Tryz.prog w = .ok (.enter 6 #[.int .i64 v, .int .i64 100]) w := by
    have hc : (callFunc 6 #[.int .i64 v, .int .i64 100]).run Tryz.prog w = .ok (.enter 6 #[.int .i64 v, .int .i64 100]) w := callFunc_run noCountT Tryz.func6 (by rfl) _ _
    have ea : (#[.tmp 18, .const (.int .i64 100)] : Array Operand).map (a.put (some 18) (.int .i64 v)).eval = #[.int .i64 v, .int .i64 100] := by
      have e3 : (a.put (some 18) (.int .i64 v)).eval (.const (.int .i64 100)) = .int .i64 100 := rfl
      rw [List.map_toArray, List.map_cons, List.map_cons, List.map_nil, e18, e3]
    simp only [execOp, oc1.1, resolve, Sem.run_bind, ea]
    simp only [show (a.put (some 18) (.int .i64 v)).eval (.func 6) = .func (.func 6) #[] #[] from rfl, Deferred.ofValue, invoke, Sem.run_pure, Result.andThen_ok, Array.empty_append, Array.append_empty]
    exact hc
  rw [ec]
  refine Calls.mono (among_any v 100 w (by omega) (by omega)) fun e w' he => ?_
  obtain ⟨rfl, rfl⟩ := he
  show wpList Tryz.prog #[nthO 0 p2, nthO 1 p2, nthO 2 p2, nthO 3 p2] Q [nthO 2 p2, nthO 3 p2] ((a.put (some 18) (.int .i64 v)).put (nthO 1 p2).dst (.int .i64 (among v 100))) w
  rw [oc1.2.1]
  refine wp_val oc2.2.2 oc2.2.1 (v := .int .i64 (20 + among v 100)) ?_ (wp_val oc3.2.2 oc3.2.1 (v := .int .i64 (20 + among v 100)) ?_ ?_)
  · have e : ((a.put (some 18) (.int .i64 v)).put (some 19) (.int .i64 (among v 100))).eval (.tmp 19) = .int .i64 (among v 100) := eval_tmp (put_at (by rw [s1.size]; omega))
    have hw : IntKind.i64.wrap (20 + among v 100) = 20 + among v 100 := IntWalk.i64_in _ (by omega)
    simp [execOp, oc2.1, e, eval_const, eqGuard, binOp, Op.intArith, hw]
  · have e : (((a.put (some 18) (.int .i64 v)).put (some 19) (.int .i64 (among v 100))).put (some 20) (.int .i64 (20 + among v 100))).eval (.tmp 20) = .int .i64 (20 + among v 100) := eval_tmp (put_at (by rw [s2.size]; omega))
    simp [execOp, oc3.1, e]
  · exact hQ _ (s3.put1 _)
end Go.Proofs.YtnllmelmmcapcaaGreatDoor.Ev
