/- TopCaches: the pieces put together. -/
import Derived.Test.YtnllmelmmcapcaaGreatDoorCaV
import Derived.Test.YtnllmelmmcapcaaGreatDoorCaN
namespace Go.Proofs.YtnllmelmmcapcaaGreatDoor.Ev
open Go Go.RowKit
set_option linter.unusedVariables false
set_option maxRecDepth 100000

section
variable {R : Type} {r : R} {N : Nat} {c : Code} {o : Oper} {tm tm' tmA tmB tm1 tm2 : Tr AV} {H H' HA HB H1 H2 : Heap} {n n' nA nB n1 n2 : Nat}

abbrev Does3 (N : Nat) (c : Code) (tm : Tr AV) (H : Heap) (n : Nat) (e : Exit) (tm' : Tr AV) (H' : Heap) (n' : Nat) : Prop := CodeDoes Tryz.prog GT N c tm H n e tm' H' n'

theorem evN_ih : IhOk Tryz.prog GT (ev Tryz.prog GT (fun ih => evDraw2 Tryz.prog GT ih) 5000 : Ih R) := ev_ok noCountT (fun ih hih => evDraw2_ok (by kernel_rfl) noCountT hih) 5000

theorem evN_nrm {k : Tr AV → Heap → Nat → Option R} (h : evN N c tm H n (nrm k) = some r) : ∃ tm' H' n', k tm' H' n' = some r ∧ Does3 N c tm H n .normal tm' H' n' := by
  obtain ⟨e, tm', H', n', h, _, hd⟩ := evN_ih h
  cases e with
  | normal => exact ⟨tm', H', n', h, hd⟩
  | _ => cases h

theorem evN_exi {id : Nat} {k : Tr AV → Heap → Nat → Option R} (h : evN N c tm H n (exi id k) = some r) : ∃ tm' H' n', k tm' H' n' = some r ∧ Does3 N c tm H n (.exit id) tm' H' n' := by
  obtain ⟨e, tm', H', n', h, _, hd⟩ := evN_ih h
  cases e with
  | exit j =>
    obtain ⟨hj, h2⟩ := cond_some (show cond (Nat.beq j id) (k tm' H' n') none = some r from h)
    clear h
    obtain rfl := beq_eq' hj
    exact ⟨tm', H', n', h2, hd⟩
  | _ => cases h

/-- The operation's doings, and where its result lies. -/
def StepDoes (N : Nat) (o : Oper) (tm : Tr AV) (H : Heap) (n : Nat) (tm' : Tr AV) (H' : Heap) (n' : Nat) : Prop :=
  ∃ v, OpDoes Tryz.prog GT o tm H n v H' n' ∧ ∀ ρ n a, RepT ρ n N tm a → v.lt n → RepT ρ n N tm' (a.put o.dst (conc ρ v))

theorem stepO_ok {k : Tr AV → Heap → Nat → Option R} (h : stepO N o tm H n k = some r) : ∃ tm' H' n', k tm' H' n' = some r ∧ StepDoes N o tm H n tm' H' n' := by
  unfold stepO evO at h
  obtain ⟨v, H', n', h, hd⟩ := evOp_ok (fun c ho {k r} h => evCallOp_ok noCountT evN_ih ho h) h
  obtain ⟨tm', h, hp⟩ := putK_ok h
  exact ⟨tm', H', n', h, v, hd, hp⟩

def Args (o : Oper) (tm : Tr AV) (l : List AV) : Prop := ∃ c, o.op = .call c ∧ ∀ ρ n N a, RepT ρ n N tm a → c.args.toList.map a.eval = concs ρ l ∧ ltAll n l
theorem argsO_ok {l : List AV} {k : Option R} (h : argsO o tm l k = some r) : k = some r ∧ Args o tm l := by
  unfold argsO at h
  split at h
  · rename_i c hc
    obtain ⟨args, h1, _, ha⟩ := opds_ok h
    obtain ⟨rfl, h2⟩ := chkL_ok h1
    exact ⟨h2, c, hc, ha⟩
  · cases h

def PutDoes (N : Nat) (d : Option Tmp) (v : AV) (tm tm' : Tr AV) : Prop := ∀ ρ n a, RepT ρ n N tm a → v.lt n → RepT ρ n N tm' (a.put d (conc ρ v))

/-- An operation whose call is of a known function, known by what it does. -/
theorem call_step {f : FuncId} {fn : Func} {args : List AV} {v : AV} {ts : Array TypeId} {xs : Array Operand} (ho : o.op = .call { callee := .value (.func f), args := xs, argTypes := ts }) (ha : Args o tm args) (hfn : Tryz.prog.funcs[f]? = some fn) (hb : fn.body.isSome = true)
    (hd : CallDoes Tryz.prog GT f args H n v H' n') (hp : PutDoes N o.dst v tm tm') : StepDoes N o tm H n tm' H' n' := by
  obtain ⟨c, hc, hargs⟩ := ha
  rw [ho] at hc
  cases hc
  exact ⟨v, OpDoes.call (first := []) (captured := []) noCountT ho rfl hargs (fun ρ n N a hT => ⟨by simp [Act.eval, conc, concs], by simp [AV.lt, ltAll]⟩) hfn hb (by simpa using hd), hp⟩

/-! ### round -/

theorem cR_eq : Tryz.f12.body = some (.seq rr0 (.seq (.seq rr1 (.block 0 (.loop rL0))) (.seq rr8 .ret))) := by kernel_rfl
theorem rL0_eq : rL0 = .seq rr2 (.seq (.block 1 (.seq rr4 (.block 2 (.loop rL2)))) rr3) := by kernel_rfl

def RIn (kb m : Nat) (H : Heap) (n : Nat) (tm' : Tr AV) (H' : Heap) (n' : Nat) : Prop := ∃ tm1 H1 n1 tm2 H2 n2 tm3 H3 n3, Does3 25 rr0 (mkTr [(0, .ptr kb 0), (1, .int .i64 (.ofNat m))]) H n .normal tm1 H1 n1 ∧ Does3 25 rr1 tm1 H1 n1 .normal tm2 H2 n2 ∧ Does3 25 rr2 tm2 H2 n2 .normal tm3 H3 n3 ∧ Does3 25 rr4 tm3 H3 n3 .normal tm' H' n'
def ROut (tm : Tr AV) (H : Heap) (n : Nat) (v : AV) (H' : Heap) (n' : Nat) : Prop := ∃ tm1 H1 n1 tm2 H2 n2 tm3 H3 n3 tm4, Does3 25 (.loop rL2) tm H n (.exit 2) tm1 H1 n1 ∧ Does3 25 rr3 tm1 H1 n1 .normal tm2 H2 n2 ∧ Does3 25 (.loop rL0) tm2 H2 n2 (.exit 0) tm3 H3 n3 ∧ Does3 25 rr8 tm3 H3 n3 .normal tm4 H' n' ∧ tm4.get 4 = some v

theorem rIn_ok {kb m : Nat} {k : Tr AV → Heap → Nat → Option R} (h : rIn kb m H n k = some r) : ∃ tm' H' n', k tm' H' n' = some r ∧ RIn kb m H n tm' H' n' := by
  obtain ⟨tm1, H1, n1, h, d1⟩ := evN_nrm h
  obtain ⟨tm2, H2, n2, h, d2⟩ := evN_nrm h
  obtain ⟨tm3, H3, n3, h, d3⟩ := evN_nrm h
  obtain ⟨tm4, H4, n4, h, d4⟩ := evN_nrm h
  exact ⟨tm4, H4, n4, h, tm1, H1, n1, tm2, H2, n2, tm3, H3, n3, d1, d2, d3, d4⟩

theorem rOut_ok {k : AV → Heap → Nat → Option R} (h : rOut tm H n k = some r) : ∃ v H' n', k v H' n' = some r ∧ ROut tm H n v H' n' := by
  obtain ⟨tm1, H1, n1, h, d1⟩ := evN_exi h
  obtain ⟨tm2, H2, n2, h, d2⟩ := evN_nrm h
  obtain ⟨tm3, H3, n3, h, d3⟩ := evN_exi h
  obtain ⟨tm4, H4, n4, h, d4⟩ := evN_nrm h
  rw [tget_eq] at h
  cases hv : tm4.get 4 with
  | none => rw [hv] at h; cases h
  | some v => rw [hv] at h; exact ⟨v, H4, n4, h, tm1, H1, n1, tm2, H2, n2, tm3, H3, n3, tm4, d1, d2, d3, d4, hv⟩

theorem round_does {kb m : Nat} {v : AV} (h1 : RIn kb m H n tmA HA nA) (h2 : Does3 25 rL2 tmA HA nA .normal tmB HB nB) (h3 : ROut tmB HB nB v H' n') : CallDoes Tryz.prog GT 12 [.ptr kb 0, .int .i64 (.ofNat m)] H n v H' n' := by
  obtain ⟨tm1, H1, n1, tm2, H2, n2, tm3, H3, n3, a1, a2, a3, a4⟩ := h1
  obtain ⟨tm5, H5, n5, tm6, H6, n6, tm7, H7, n7, tm8, b1, b2, b3, b4, hv⟩ := h3
  have hL2 : Does3 25 (.loop rL2) tmA HA nA (.exit 2) tm5 H5 n5 := h2.again b1 trivial
  have hB2 : Does3 25 (.block 2 (.loop rL2)) tmA HA nA .normal tm5 H5 n5 := hL2.blockEnd
  have hM : Does3 25 (.block 1 (.seq rr4 (.block 2 (.loop rL2)))) tm3 H3 n3 .normal tm5 H5 n5 := (CodeDoes.seq a4 hB2).block (fun j hj => by cases hj)
  have hL0a : Does3 25 rL0 tm2 H2 n2 .normal tm6 H6 n6 := by rw [rL0_eq]; exact a3.seq (hM.seq b2)
  have hL0 : Does3 25 (.loop rL0) tm2 H2 n2 (.exit 0) tm7 H7 n7 := hL0a.again b3 trivial
  have hB0 : Does3 25 (.block 0 (.loop rL0)) tm2 H2 n2 .normal tm7 H7 n7 := hL0.blockEnd
  have hall := a1.seq ((a2.seq hB0).seq (b4.seq CodeDoes.ret))
  refine CallDoes.of_code Tryz.func12 cR_eq (by simp [Tryz.ntmps12]) (t := 4) (by rfl) (fun i x hx => ?_) (by rw [Tryz.ntmps12]; exact hall) hv
  have := mkTr_get _ hx
  simp only [List.mem_cons, Prod.mk.injEq, List.not_mem_nil, or_false] at this
  rcases this with ⟨rfl, rfl⟩ | ⟨rfl, rfl⟩ <;> rfl

/-! ### What asks -/

noncomputable def q4l : List Oper := opsC q4
theorem cQ_eq : Tryz.f10.body = some (.seq (nthC 0 cQ) (.seq (nthC 1 cQ) (.seq (nthC 2 cQ) (.seq (nthC 3 cQ) (.seq q4 .ret))))) := by kernel_rfl
theorem q4_eq : q4 = .region 4 #[nthO 0 q4, nthO 1 q4, nthO 2 q4] false := by kernel_rfl
theorem q4_1 : (nthO 1 q4).op = .call { callee := .value (.func 12), args := #[.tmp 16, .const (.int .i64 2)], argTypes := #[28, 3] } := by kernel_rfl
theorem q4_g : (nthO 0 q4).guard = none ∧ (nthO 1 q4).guard = none ∧ (nthO 2 q4).guard = none := ⟨by kernel_rfl, by kernel_rfl, by kernel_rfl⟩

def QIn (kb bx c : Nat) (H : Heap) (n : Nat) (tm' : Tr AV) (H' : Heap) (n' : Nat) : Prop := ∃ tm1 H1 n1 tm2 H2 n2 tm3 H3 n3 tm4 H4 n4, Does3 18 (nthC 0 cQ) (mkTr [(0, .int .i64 (.ofNat c)), (1, .ptr bx 0)]) H n .normal tm1 H1 n1 ∧ Does3 18 (nthC 1 cQ) tm1 H1 n1 .normal tm2 H2 n2 ∧
  Does3 18 (nthC 2 cQ) tm2 H2 n2 .normal tm3 H3 n3 ∧ Does3 18 (nthC 3 cQ) tm3 H3 n3 .normal tm4 H4 n4 ∧ StepDoes 18 (nthO 0 q4) tm4 H4 n4 tm' H' n' ∧ Args (nthO 1 q4) tm' [.ptr kb 0, .int .i64 2]
def QOut (tm : Tr AV) (v : AV) (H : Heap) (n : Nat) (u : AV) (H' : Heap) (n' : Nat) : Prop := ∃ tm1 tm2, PutDoes 18 (nthO 1 q4).dst v tm tm1 ∧ StepDoes 18 (nthO 2 q4) tm1 H n tm2 H' n' ∧ tm2.get 3 = some u

theorem qIn_ok {kb bx c : Nat} {k : Tr AV → Heap → Nat → Option R} (h : qIn kb bx c H n k = some r) : ∃ tm' H' n', k tm' H' n' = some r ∧ QIn kb bx c H n tm' H' n' := by
  obtain ⟨tm1, H1, n1, h, d1⟩ := evN_nrm h
  obtain ⟨tm2, H2, n2, h, d2⟩ := evN_nrm h
  obtain ⟨tm3, H3, n3, h, d3⟩ := evN_nrm h
  obtain ⟨tm4, H4, n4, h, d4⟩ := evN_nrm h
  obtain ⟨tm5, H5, n5, h, d5⟩ := stepO_ok h
  obtain ⟨h, d6⟩ := argsO_ok h
  exact ⟨tm5, H5, n5, h, tm1, H1, n1, tm2, H2, n2, tm3, H3, n3, tm4, H4, n4, d1, d2, d3, d4, d5, d6⟩

theorem qOut_ok {v : AV} {k : AV → Heap → Nat → Option R} (h : qOut tm v H n k = some r) : ∃ u H' n', k u H' n' = some r ∧ QOut tm v H n u H' n' := by
  obtain ⟨tm1, h, d1⟩ := putK_ok h
  obtain ⟨tm2, H2, n2, h, d2⟩ := stepO_ok h
  rw [tget_eq] at h
  cases hv : tm2.get 3 with
  | none => rw [hv] at h; cases h
  | some u => rw [hv] at h; exact ⟨u, H2, n2, h, tm1, tm2, d1, d2, hv⟩

theorem PutDoes.pre {d : Option Tmp} {v : AV} (h : PutDoes N d v tm tm') (ht : TrSub tm tm2) : PutDoes N d v tm2 tm' := fun ρ n a hT hv => h ρ n a (hT.sub ht) hv

theorem OpsDoes.step {ops : Array Oper} {l : List Oper} (hg : o.guard = none) (hd : StepDoes N o tm H n tm1 H1 n1) (hr : OpsDoes Tryz.prog GT N ops l tm1 H1 n1 tm2 H2 n2) : OpsDoes Tryz.prog GT N ops (o :: l) tm H n tm2 H2 n2 := by
  obtain ⟨v, h1, h2⟩ := hd
  exact OpsDoes.cons hg h1 h2 hr

theorem asks_does {kb bx c : Nat} {v u : AV} (h1 : QIn kb bx c H n tmA HA nA) (h2 : CallDoes Tryz.prog GT 12 [.ptr kb 0, .int .i64 2] HA nA v HB nB) (h3 : QOut .lf v HB nB u H' n') :
    CallDoes Tryz.prog GT 10 [.int .i64 (.ofNat c), .ptr bx 0] H n u H' n' := by
  obtain ⟨tm1, H1, n1, tm2, H2, n2, tm3, H3, n3, tm4, H4, n4, a1, a2, a3, a4, a5, a6⟩ := h1
  obtain ⟨tm5, tm6, b1, b2, hv⟩ := h3
  have hc : StepDoes 18 (nthO 1 q4) tmA HA nA tm5 HB nB := call_step q4_1 a6 Tryz.func12 (by rw [cR_eq]; rfl) h2 (b1.pre (TrSub.lf _))
  have hq : Does3 18 q4 tm4 H4 n4 .normal tm6 H' n' := by
    have := CodeDoes.region (id := 4) (ops := #[nthO 0 q4, nthO 1 q4, nthO 2 q4]) (OpsDoes.step q4_g.1 a5 (OpsDoes.step q4_g.2.1 hc (OpsDoes.step q4_g.2.2 b2 OpsDoes.nil)))
    rw [← q4_eq] at this
    exact this
  have hall := a1.seq (a2.seq (a3.seq (a4.seq (hq.seq CodeDoes.ret))))
  refine CallDoes.of_code Tryz.func10 cQ_eq (by simp [Tryz.ntmps10]) (t := 3) (by rfl) (fun i x hx => ?_) (by rw [Tryz.ntmps10]; exact hall) hv
  have := mkTr_get _ hx
  simp only [List.mem_cons, Prod.mk.injEq, List.not_mem_nil, or_false] at this
  rcases this with ⟨rfl, rfl⟩ | ⟨rfl, rfl⟩ <;> rfl

/-! ### The statement's own code -/

theorem cT_eq : Tryz.f3.body = some (.seq (nthC 0 cT) (.seq (nthC 1 cT) (.seq (nthC 2 cT) (dropC 3 cT)))) := by kernel_rfl
theorem c3_eq : dropC 3 cT = .seq (nthC 3 cT) (.seq (nthC 4 cT) (.seq (nthC 5 cT) (.seq (nthC 6 cT) (.seq (nthC 7 cT) (.seq (nthC 8 cT) (.seq (nthC 9 cT) (.seq (nthC 10 cT) (.seq (nthC 11 cT) (dropC 12 cT))))))))) := by kernel_rfl
theorem c12_eq : dropC 12 cT = .seq (nthC 12 cT) (.seq (nthC 13 cT) (.seq p14 (.seq p15 (.seq (nthC 16 cT) .ret)))) := by kernel_rfl
theorem p14_eq : p14 = .region 17 #[nthO 0 p14, nthO 1 p14, nthO 2 p14] false := by kernel_rfl
theorem p14_1 : (nthO 1 p14).op = .call { callee := .value (.func 12), args := #[.tmp 64, .const (.int .i64 3)], argTypes := #[28, 3] } := by kernel_rfl
theorem p14_g : (nthO 0 p14).guard = none ∧ (nthO 1 p14).guard = none ∧ (nthO 2 p14).guard = none := ⟨by kernel_rfl, by kernel_rfl, by kernel_rfl⟩
theorem p15_eq : p15 = .region 18 #[nthO 0 p15, nthO 1 p15, nthO 2 p15, nthO 3 p15, nthO 4 p15, nthO 5 p15] false := by kernel_rfl
theorem p15_1 : (nthO 1 p15).op = .call { callee := .value (.tmp 66), args := #[.const (.int .i64 1)], argTypes := #[3] } := by kernel_rfl
theorem p15_g : (nthO 0 p15).guard = none ∧ (nthO 1 p15).guard = none ∧ (nthO 2 p15).guard = none ∧ (nthO 3 p15).guard = none ∧ (nthO 4 p15).guard = none ∧ (nthO 5 p15).guard = none := ⟨by kernel_rfl, by kernel_rfl, by kernel_rfl, by kernel_rfl, by kernel_rfl, by kernel_rfl⟩

theorem late {kb bx n1 n2 n3 n4 n5 : Nat} {tl1 tlC tlD tlE tlR2 tlR3 tlR4 : TmL} {S1 S2 S3 S4 S5 : HpL} (hV1 : evV1 kb tl1 S1 n1 tlC tlR2 S2 n2 = some ()) (hU1 : evU1 kb bx tlR2 S2 n2 tlC tlD tlR3 S3 = some (inT tlD, inT tlR3, inT S3, n3))
    (hV2 : evV2 tlR3 S3 n3 tlR4 S4 n4 = some ()) (hU2 : evU2 tlR4 S4 n4 tlD tlE S5 = some (inT tlE, [], inT S5, n5)) (hF : evF tlE S5 n5 = some ()) :
    ∃ tm' H' n', Does3 99 (dropC 12 cT) (mkTr tl1) (mkTr S1) n1 .ret tm' H' n' ∧ tm'.get 4 = some (.bool true) := by
  obtain ⟨a1, b1, m1, h, d1⟩ := evN_nrm hV1
  obtain ⟨a2, b2, m2, h, d2⟩ := evN_nrm h
  obtain ⟨a3, b3, m3, h, d3⟩ := stepO_ok h
  obtain ⟨h, d4⟩ := argsO_ok h
  obtain ⟨h, s3⟩ := chkM_ok h
  obtain ⟨a4, b4, m4, h, d5⟩ := rIn_ok h
  obtain ⟨a5, b5, m5, h, d6⟩ := evN_nrm h
  obtain ⟨h, s5⟩ := chkM_ok h
  obtain ⟨h, s6⟩ := chkH_ok h
  obtain ⟨rfl, _⟩ := chkN_ok h
  clear h
  obtain ⟨v6, b6, m6, h, d7⟩ := rOut_ok hU1
  have hr1 := round_does d5 (d6.post s5 s6) d7
  obtain ⟨a7, h, e1⟩ := putK_ok h
  have c1 : StepDoes 99 (nthO 1 p14) a3 b3 m3 a7 b6 m6 := call_step p14_1 d4 Tryz.func12 (by rw [cR_eq]; rfl) hr1 (PutDoes.pre e1 s3)
  obtain ⟨a8, b8, m8, h, d8⟩ := stepO_ok h
  have hp14 : Does3 99 p14 a2 b2 m2 .normal a8 b8 m8 := by
    have := CodeDoes.region (id := 17) (ops := #[nthO 0 p14, nthO 1 p14, nthO 2 p14]) (OpsDoes.step p14_g.1 d3 (OpsDoes.step p14_g.2.1 c1 (OpsDoes.step p14_g.2.2 d8 OpsDoes.nil)))
    rw [← p14_eq] at this
    exact this
  obtain ⟨a9, b9, m9, h, d9⟩ := stepO_ok h
  obtain ⟨h, d10⟩ := argsO_ok h
  rw [tget_eq] at h
  cases h66 : a9.get 66 with
  | none => rw [h66] at h; cases h
  | some w66 =>
  rw [h66] at h
  obtain ⟨rfl, hA⟩ := chkV_ok h
  clear h
  obtain ⟨a10, b10, m10, h, d11⟩ := qIn_ok hA
  obtain ⟨a11, b11, m11, h, d12⟩ := rIn_ok h
  simp only [Option.some.injEq, Prod.mk.injEq] at h
  obtain ⟨h1, h2, h3, rfl⟩ := h
  obtain ⟨a12, b12, m12, h, d13⟩ := evN_nrm hV2
  obtain ⟨h, s12⟩ := chkM_ok h
  obtain ⟨h, s13⟩ := chkH_ok h
  obtain ⟨rfl, _⟩ := chkN_ok h
  clear h
  obtain ⟨v14, b14, m14, h, d14⟩ := rOut_ok hU2
  have hr2 := round_does d12 ((d13.post s12 s13).pre (TrSub.of_out h2) (TrSub.of_out h3)) d14
  obtain ⟨u15, b15, m15, h, d15⟩ := qOut_ok h
  have hq := asks_does d11 hr2 d15
  obtain ⟨a16, h, e2⟩ := putK_ok h
  obtain ⟨a17, b17, m17, h, d17⟩ := stepO_ok h
  obtain ⟨a18, b18, m18, h, d18⟩ := stepO_ok h
  obtain ⟨a19, b19, m19, h, d19⟩ := stepO_ok h
  obtain ⟨a20, b20, m20, h, d20⟩ := stepO_ok h
  have c2 : StepDoes 99 (nthO 1 p15) a9 b9 m9 a16 b15 m15 := by
    obtain ⟨c, hc, hargs⟩ := d10
    have ho := p15_1
    rw [hc] at ho
    cases ho
    refine ⟨u15, OpDoes.call (first := []) (captured := [.ptr bx 0]) noCountT hc rfl hargs (fun ρ n N a hT => ?_) Tryz.func10 (by rw [cQ_eq]; rfl) hq, PutDoes.pre e2 (fun i x hx => ?_)⟩
    · obtain ⟨q1, q2⟩ := hT.tmp 66 _ h66
      exact ⟨by simp [Act.eval, Array.getD_eq_getD_getElem?, q2], q1⟩
    · exact TrSub.of_out h1 i x hx
  have hp15 : Does3 99 p15 a8 b8 m8 .normal a20 b20 m20 := by
    have := CodeDoes.region (id := 18) (ops := #[nthO 0 p15, nthO 1 p15, nthO 2 p15, nthO 3 p15, nthO 4 p15, nthO 5 p15])
      (OpsDoes.step p15_g.1 d9 (OpsDoes.step p15_g.2.1 c2 (OpsDoes.step p15_g.2.2.1 d17 (OpsDoes.step p15_g.2.2.2.1 d18 (OpsDoes.step p15_g.2.2.2.2.1 d19 (OpsDoes.step p15_g.2.2.2.2.2 d20 OpsDoes.nil))))))
    rw [← p15_eq] at this
    exact this
  simp only [Option.some.injEq, Prod.mk.injEq] at h
  obtain ⟨h1', _, h3', rfl⟩ := h
  obtain ⟨a21, b21, m21, h, d21⟩ := evN_nrm hF
  rw [tget_eq] at h
  cases h4 : a21.get 4 with
  | none => rw [h4] at h; cases h
  | some v4 =>
  rw [h4] at h
  obtain ⟨rfl, _⟩ := chkV_ok h
  refine ⟨a21, b21, m21, ?_, h4⟩
  rw [c12_eq]
  exact d1.seq (d2.seq (hp14.seq (hp15.seq (((d21.pre (TrSub.of_out h1') (TrSub.of_out h3'))).seq CodeDoes.ret))))
end
end Go.Proofs.YtnllmelmmcapcaaGreatDoor.Ev
