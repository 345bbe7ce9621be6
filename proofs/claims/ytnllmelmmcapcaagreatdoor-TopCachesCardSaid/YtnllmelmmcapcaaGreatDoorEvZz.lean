/- Pieces of a run, put together: what less is known of, what is done first and then, a call whose body is known by its pieces. -/
import Derived.Test.YtnllmelmmcapcaaGreatDoorEvFz
namespace Go.Proofs.YtnllmelmmcapcaaGreatDoor.Ev
open Go Go.RowKit
set_option linter.unusedVariables false

section
variable {P : Program} {G : Gl}

/-- t' knows no more than t, and nothing else. -/
def TrSub {α : Type} (t' t : Tr α) : Prop := ∀ i x, t'.get i = some x → t.get i = some x
theorem TrSub.refl {α : Type} (t : Tr α) : TrSub t t := fun _ _ h => h
theorem TrSub.lf {α : Type} (t : Tr α) : TrSub .lf t := fun i x h => by simp [Tr.get] at h

theorem Rep.sub {ρ : Env} {H H' : Heap} {n : Nat} {w0 w : World} (h : Rep ρ H n w0 w) (hs : TrSub H' H) : Rep ρ H' n w0 w :=
  ⟨fun b B hb => h.lt b B (hs b B hb), fun b B hb => h.old b B (hs b B hb), fun b B hb => h.cells b B (hs b B hb), fun b B hb => h.ok b B (hs b B hb),
    fun b b' B B' hb hb' => h.inj b b' B B' (hs _ _ hb) (hs _ _ hb'), h.upd, h.frame, fun b B hb => h.apart b B (hs b B hb)⟩

theorem RepT.sub {ρ : Env} {n N : Nat} {tm tm' : Tr AV} {a : Act} (h : RepT ρ n N tm a) (hs : TrSub tm' tm) : RepT ρ n N tm' a :=
  ⟨h.size, h.defers, fun t v hv => h.tmp t v (hs t v hv)⟩

theorem RepT.more {ρ : Env} {n m N : Nat} {tm : Tr AV} {a : Act} (h : RepT ρ n N tm a) (hm : n ≤ m) : RepT ρ m N tm a :=
  ⟨h.size, h.defers, fun t v hv => ⟨AV.lt_mono hm v (h.tmp t v hv).1, (h.tmp t v hv).2⟩⟩

theorem Rep.more {ρ : Env} {H : Heap} {n m : Nat} {w0 w : World} (h : Rep ρ H n w0 w) (hm : n ≤ m) : Rep ρ H m w0 w :=
  ⟨fun b B hb => by have := h.lt b B hb; omega, h.old, fun b B hb v hv => AV.lt_mono hm v (h.cells b B hb v hv), h.ok, h.inj, h.upd, h.frame, h.apart⟩

theorem Ext.less {ρ ρ' : Env} {n m : Nat} (h : Ext m ρ ρ') (hm : n ≤ m) : Ext n ρ ρ' :=
  ⟨fun b hb => h.blk b (by omega), fun b hb => h.sh b (by omega), fun b hb => h.cap b (by omega), h.byte, h.age, h.any, h.fr⟩

/-- The same memory, its blocks known by the later names. -/
theorem Rep.ext {ρ ρ' : Env} {H : Heap} {n m : Nat} {w0 w : World} (h : Rep ρ H n w0 w) (he : Ext n ρ ρ') (hm : n ≤ m) : Rep ρ' H m w0 w := by
  refine Rep.more (n := n) ⟨h.lt, fun b B hb => ?_, h.cells, fun b B hb => ?_, fun b b' B B' hb hb' e => ?_, h.upd, fun g o hg => h.frame g o (by rw [← he.fr]; exact hg), fun b B hb => ?_⟩ hm
  · rw [he.blk b (h.lt b B hb)]; exact h.old b B hb
  · obtain ⟨cs, lo, hi, r1, r2, r3, r4, r5⟩ := (h.ok b B hb).row
    have hl := h.lt b B hb
    refine ⟨cs, lo, hi, by rw [he.blk b hl]; exact r1, r2, fun i v hv => ?_, fun ho => by rw [he.sh b hl, he.cap b hl]; exact r4 ho, fun ho => by rw [he.sh b hl]; exact r5 ho⟩
    rw [he.sh b hl, conc_ext he v (h.cells b B hb v (List.mem_of_getElem? hv))]; exact r3 i v hv
  · rw [he.blk b (h.lt b B hb), he.blk b' (h.lt b' B' hb')] at e; exact h.inj b b' B B' hb hb' e
  · rw [he.fr, he.blk b (h.lt b B hb)]; exact h.apart b B hb

variable {N : Nat} {tm tm' tm1 tm2 : Tr AV} {H H' H1 H2 : Heap} {n n' n1 n2 : Nat} {e : Exit}

theorem CodeDoes.post {c : Code} (h : CodeDoes P G N c tm H n e tm' H' n') (ht : TrSub tm2 tm') (hh : TrSub H2 H') : CodeDoes P G N c tm H n e tm2 H2 n' := fun ρ w0 a w hG hT hR =>
  wp_mono (h ρ w0 a w hG hT hR) fun e' a' w' ⟨q1, ρ', q2, q3, q4, q5⟩ => ⟨q1, ρ', q2, q3, q4.sub ht, q5.sub hh⟩

theorem CodeDoes.pre {c : Code} (h : CodeDoes P G N c tm H n e tm' H' n') (ht : TrSub tm tm2) (hh : TrSub H H2) : CodeDoes P G N c tm2 H2 n e tm' H' n' := fun ρ w0 a w hG hT hR =>
  h ρ w0 a w hG (hT.sub ht) (hR.sub hh)

theorem CodeDoes.stop {x y : Code} (h : CodeDoes P G N x tm H n e tm' H' n') (he : e ≠ .normal) : CodeDoes P G N (.seq x y) tm H n e tm' H' n' := fun ρ w0 a w hG hT hR =>
  wp_seq (wp_mono (h ρ w0 a w hG hT hR) fun e' a' w' hq => by
    obtain ⟨rfl, hq⟩ := hq
    exact then_of he ⟨rfl, hq⟩)

theorem CodeDoes.again {b : Code} (h1 : CodeDoes P G N b tm H n .normal tm1 H1 n1) (h2 : CodeDoes P G N (.loop b) tm1 H1 n1 e tm2 H2 n2) (he : ExOk e) : CodeDoes P G N (.loop b) tm H n e tm2 H2 n2 := fun ρ w0 a w hG hT hR =>
  wp_loop_again (fun e' a' w' hq => by obtain ⟨rfl, _⟩ := hq; exact he) (wp_mono (h1 ρ w0 a w hG hT hR) fun e' a' w' hq => by
    obtain ⟨rfl, ρ1, e1, f1, hT1, hR1⟩ := hq
    refine wp_mono (h2 ρ1 w0 a' w' hG hT1 hR1) fun e' a'' w'' hq => ?_
    obtain ⟨rfl, ρ2, g1, g2, hT2, hR2⟩ := hq
    exact ⟨rfl, ρ2, e1.trans f1 g1, by omega, hT2, hR2⟩)

theorem CodeDoes.blockEnd {id : Nat} {x : Code} (h : CodeDoes P G N x tm H n (.exit id) tm' H' n') : CodeDoes P G N (.block id x) tm H n .normal tm' H' n' := fun ρ w0 a w hG hT hR =>
  wp_block (wp_mono (h ρ w0 a w hG hT hR) fun e' a' w' hq => by
    obtain ⟨rfl, hq⟩ := hq
    simp only [Exit.inBlock, if_true]
    exact ⟨trivial, hq⟩)

theorem CodeDoes.block {id : Nat} {x : Code} (h : CodeDoes P G N x tm H n e tm' H' n') (he : ∀ j, e = .exit j → j ≠ id) : CodeDoes P G N (.block id x) tm H n e tm' H' n' := fun ρ w0 a w hG hT hR =>
  wp_block (wp_mono (h ρ w0 a w hG hT hR) fun e' a' w' hq => by
    have h1 : e' = e := hq.1
    subst h1
    exact inBlock_of he hq)

theorem CodeDoes.ret : CodeDoes P G N .ret tm H n .ret tm H n := fun ρ w0 a w hG hT hR => wp_ret ⟨rfl, ρ, Ext.refl _ _, Nat.le_refl _, hT, hR⟩

/-! ### Regions by their operations -/

def OpsDoes (P : Program) (G : Gl) (N : Nat) (ops : Array Oper) (l : List Oper) (tm : Tr AV) (H : Heap) (n : Nat) (tm' : Tr AV) (H' : Heap) (n' : Nat) : Prop :=
  ∀ ρ w0 a w, GlobOk G w0 → RepT ρ n N tm a → Rep ρ H n w0 w → ∀ Q : Exit → Act → World → Prop,
    (∀ ρ' a' w', Ext n ρ ρ' → n ≤ n' → RepT ρ' n' N tm' a' → Rep ρ' H' n' w0 w' → Q .normal a' w') → wpList P ops Q l a w

theorem OpsDoes.nil {ops : Array Oper} : OpsDoes P G N ops [] tm H n tm H n := fun ρ w0 a w hG hT hR Q hQ => hQ ρ a w (Ext.refl _ _) (Nat.le_refl _) hT hR

theorem OpsDoes.cons {ops : Array Oper} {o : Oper} {l : List Oper} {v : AV} (hg : o.guard = none) (hd : OpDoes P G o tm H n v H1 n1) (hp : ∀ ρ n a, RepT ρ n N tm a → v.lt n → RepT ρ n N tm1 (a.put o.dst (conc ρ v))) (hr : OpsDoes P G N ops l tm1 H1 n1 tm2 H2 n2) :
    OpsDoes P G N ops (o :: l) tm H n tm2 H2 n2 := by
  intro ρ w0 a w hG hT hR Q hQ
  unfold wpList
  rw [if_pos (by simp [Region.wanted, hg])]
  refine .inl (Oper.wp_noQ (Oper.wp_mono (fun a' w' hk => ?_) (hd ρ w0 N a w hG hT hR)))
  obtain ⟨ρ1, e1, e2, e3, rfl, e5⟩ := hk
  exact hr ρ1 w0 _ w' hG (hp ρ1 n1 a (hT.mono e1 e2) e3) e5 Q (fun ρ' a' w' f1 f2 f3 f4 => hQ ρ' a' w' (e1.trans e2 f1) (by omega) f3 f4)

theorem CodeDoes.region {id : Nat} {ops : Array Oper} (h : OpsDoes P G N ops ops.toList tm H n tm' H' n') : CodeDoes P G N (.region id ops false) tm H n .normal tm' H' n' := fun ρ w0 a w hG hT hR =>
  wp_region_list (h ρ w0 a w hG hT hR (Left P w0 ρ n N .normal tm' H' n') (fun ρ' a' w' e1 e2 e3 e4 => ⟨rfl, ρ', e1, e2, e3, e4⟩))

theorem OpsDoes.pre {ops : Array Oper} {l : List Oper} (h : OpsDoes P G N ops l tm H n tm' H' n') (ht : TrSub tm tm2) (hh : TrSub H H2) : OpsDoes P G N ops l tm2 H2 n tm' H' n' := fun ρ w0 a w hG hT hR Q hQ =>
  h ρ w0 a w hG (hT.sub ht) (hR.sub hh) Q hQ

/-- A call of a function whose doings are known. -/
theorem OpDoes.call (hN : NoCount P G) {o : Oper} {c : Call} {f : Operand} {g : FuncId} {fn : Func} {args first captured : List AV} {v : AV} (ho : o.op = .call c) (hc : c.callee = .value f)
    (hargs : ∀ ρ n N a, RepT ρ n N tm a → c.args.toList.map a.eval = concs ρ args ∧ ltAll n args) (hfv : ∀ ρ n N a, RepT ρ n N tm a → a.eval f = conc ρ (.fn (.func g) first captured) ∧ (AV.fn (.func g) first captured).lt n)
    (hfn : P.funcs[g]? = some fn) (hb : fn.body.isSome = true) (hd : CallDoes P G g ((first ++ args) ++ captured) H n v H' n') : OpDoes P G o tm H n v H' n' := by
  refine enter_ok hN ⟨fn, hfn, .inl ⟨hb, hd⟩⟩ fun ρ w0 N a w hG hT hR => ?_
  obtain ⟨h1, h2⟩ := hargs ρ n N a hT
  have e1 : c.args.map a.eval = (concs ρ args).toArray := by rw [← h1]; apply Array.ext'; simp
  obtain ⟨e3, e4⟩ := hfv ρ n N a hT
  simp only [AV.lt] at e4
  refine ⟨ltAll_app (ltAll_app e4.1 h2) e4.2, ?_⟩
  simp only [execOp, ho, resolve, hc, Sem.run_bind, Sem.run_pure, Result.andThen_ok, e1, e3, conc, Deferred.ofValue, invoke]
  congr 2
  simp [concs_eq]

/-- A call, by its body. -/
theorem CallDoes.of_code {f : FuncId} {fn : Func} {c : Code} {args : List AV} {t : Nat} {v : AV} (hfn : P.funcs[f]? = some fn) (hc : fn.body = some c) (hl : args.length ≤ fn.ntmps) (hr : fn.results.toList = [.tmp t]) (ht : ∀ i x, tm.get i = some x → args[i]? = some x)
    (hd : CodeDoes P G fn.ntmps c tm H n .ret tm' H' n') (hv : tm'.get t = some v) : CallDoes P G f args H n v H' n' := by
  intro ρ w0 w hG hR hlt
  refine calls_of_wp hfn hc (wp_mono (hd ρ w0 _ w hG ⟨by simp [concs_length]; omega, rfl, fun i x hx => ?_⟩ hR) fun e' a' w' hq => ?_)
  · have hx := ht i x hx
    have hi := (List.getElem?_eq_some_iff.1 hx).1
    refine ⟨ltAll_get hlt hx, ?_⟩
    rw [Array.getElem?_append_left (by rw [List.size_toArray, concs_length]; exact hi), List.getElem?_toArray, concs_get, hx]; rfl
  · obtain ⟨rfl, ρ', he1, hn, hT, hR'⟩ := hq
    obtain ⟨q1, q2⟩ := hT.tmp t v hv
    have hrs := run_results (P := P) (fn := fn) (tmps := a'.tmps) (w := w') (ys := [conc ρ' v]) (by rw [hr]; rfl) (fun i x y hx hy => by
      rw [hr] at hx
      match i, hx, hy with
      | 0, hx, hy =>
        simp only [List.getElem?_cons_zero, Option.some.injEq] at hx hy
        subst hx hy
        simp [resV, Array.getD_eq_getD_getElem?, q2])
    refine ⟨hT.defers, _, ?_, ρ', rfl, he1, hn, q1, hR'⟩
    simpa using hrs

/-! ### Is known what is said? -/

/-- The tree of a list of places. -/
noncomputable def mkTr {α : Type} (l : List (Nat × α)) : Tr α :=
  List.rec (motive := fun _ => Tr α) .lf (fun x _ ih => match tset (some x.2) 24 ih x.1 (fun t => some t) with | some t => t | none => .lf) l

theorem mkTr_get {α : Type} : ∀ (l : List (Nat × α)) {i : Nat} {x : α}, (mkTr l).get i = some x → (i, x) ∈ l
  | [], i, x, h => by simp [mkTr, Tr.get] at h
  | y :: l, i, x, h => by
    have e : mkTr (y :: l) = match tset (some y.2) 24 (mkTr l) y.1 (fun t => some t) with | some t => t | none => .lf := rfl
    rw [e] at h
    cases hs : tset (some y.2) 24 (mkTr l) y.1 (fun t => some t) with
    | none => rw [hs] at h; simp [Tr.get] at h
    | some t =>
      rw [hs] at h
      obtain ⟨t', ht, hg⟩ := tset_some _ hs
      cases ht
      change t.get i = some x at h
      rw [hg] at h
      by_cases hi : i = y.1
      · rw [if_pos hi] at h; cases h; subst hi; exact List.mem_cons_self ..
      · rw [if_neg hi] at h; exact List.mem_cons_of_mem _ (mkTr_get l h)

noncomputable def getO {α : Type} (t : Tr α) (i : Nat) : Option α := match tget t i (fun o => some o) with | some o => o | none => none
theorem getO_eq {α : Type} (t : Tr α) (i : Nat) : getO t i = t.get i := by unfold getO; rw [tget_eq]
/-- What the tree has at these places; what is said of them. -/
noncomputable def outT {α : Type} (l : List (Nat × α)) (t : Tr α) : List (Option α) := l.map fun x => getO t x.1
noncomputable def inT {α : Type} (l : List (Nat × α)) : List (Option α) := l.map fun x => some x.2

/-- Each of these places is known to hold so. -/
def Holds {α : Type} (t : Tr α) (l : List (Nat × α)) : Prop := ∀ i x, (i, x) ∈ l → t.get i = some x
theorem Holds.sub {α : Type} {t : Tr α} {l : List (Nat × α)} (h : Holds t l) : TrSub (mkTr l) t := fun i x hx => h i x (mkTr_get l hx)
theorem Holds.of_out {α : Type} : ∀ {l : List (Nat × α)} {t : Tr α}, outT l t = inT l → Holds t l
  | [], t, _ => fun i x hx => by cases hx
  | y :: l, t, h => by
    simp only [outT, inT, List.map_cons, List.cons.injEq] at h
    intro i x hx
    rcases List.mem_cons.1 hx with e | e
    · cases e; rw [← getO_eq]; exact h.1
    · exact Holds.of_out (l := l) h.2 i x e
theorem TrSub.of_out {α : Type} {l : List (Nat × α)} {t : Tr α} (h : outT l t = inT l) : TrSub (mkTr l) t := (Holds.of_out h).sub
end
end Go.Proofs.YtnllmelmmcapcaaGreatDoor.Ev
namespace Go.Proofs.YtnllmelmmcapcaaGreatDoor.Ev
open Go Go.RowKit
set_option linter.unusedVariables false

noncomputable def eqFn (a b : Fn) : Bool := match a, b with | .func f, .func g => Nat.beq f g | _, _ => false
theorem eqFn_eq {a b : Fn} (h : eqFn a b = true) : a = b := by
  unfold eqFn at h
  split at h
  · rw [beq_eq' h]
  · cases h

/-- The same value, of one cell. -/
noncomputable def eqW0 (a b : AV) : Bool :=
  match a, b with
  | .int k a, .int j b => decide (k = j) && decide (a = b)
  | .bool a, .bool b => a == b
  | .symb a, .symb b => Nat.beq a b
  | .str a, .str b => leq a b
  | .ptr b o, .ptr c p => Nat.beq b c && Nat.beq o p
  | .glob b o, .glob c p => Nat.beq b c && Nat.beq o p
  | .nilp, .nilp => true
  | .sl b o l c, .sl b' o' l' c' => Nat.beq b b' && Nat.beq o o' && Nat.beq l l' && Nat.beq c c'
  | .slo b o l c, .slo b' o' l' c' => Nat.beq b b' && Nat.beq o o' && Nat.beq l l' && Nat.beq c c'
  | .slz b o l c, .slz b' o' l' c' => Nat.beq b b' && Nat.beq o o' && Nat.beq l l' && Nat.beq c c'
  | .nilsl, .nilsl => true
  | .nilfn, .nilfn => true
  | .nilif, .nilif => true
  | .any a, .any b => Nat.beq a b
  | .age a, .age b => a == b
  | _, _ => false
noncomputable def eqW0s (l : List AV) : List AV → Bool :=
  List.rec (motive := fun _ => List AV → Bool) (fun m => match m with | [] => true | _ => false) (fun x _ ih m => match m with | [] => false | y :: m => cond (eqW0 x y) (ih m) false) l
noncomputable def eqW1 (a b : AV) : Bool :=
  match a, b with
  | .agg l, .agg m => eqW0s l m
  | .fn f x c, .fn g y d => eqFn f g && eqW0s x y && eqW0s c d
  | a, b => eqW0 a b
noncomputable def eqW (a b : AV) : Bool :=
  match a, b with
  | .iface t v, .iface u w => Nat.beq t u && eqW1 v w
  | .tup l, .tup m => eqW0s l m
  | a, b => eqW1 a b
noncomputable def eqWs (l : List AV) : List AV → Bool :=
  List.rec (motive := fun _ => List AV → Bool) (fun m => match m with | [] => true | _ => false) (fun x _ ih m => match m with | [] => false | y :: m => cond (eqW x y) (ih m) false) l

theorem eqW0_eq {a b : AV} (h : eqW0 a b = true) : a = b := by
  unfold eqW0 at h
  split at h
  case h_4 => rw [leq_eq h]
  all_goals first
    | rfl
    | cases h; done
    | (simp only [Bool.and_eq_true, decide_eq_true_eq, beq_iff_eq, Nat.beq_eq] at h; simp [h])

theorem eqW0s_eq : ∀ {l m : List AV}, eqW0s l m = true → l = m
  | [], [], _ => rfl
  | [], _ :: _, h => by cases h
  | _ :: _, [], h => by cases h
  | x :: l, y :: m, h => by
    have h : cond (eqW0 x y) (eqW0s l m) false = true := h
    cases hb : eqW0 x y with
    | false => rw [hb] at h; cases h
    | true => rw [hb] at h; rw [eqW0_eq hb, eqW0s_eq h]

theorem eqW1_eq {a b : AV} (h : eqW1 a b = true) : a = b := by
  unfold eqW1 at h
  split at h
  · rw [eqW0s_eq h]
  · simp only [Bool.and_eq_true] at h
    rw [eqFn_eq h.1.1, eqW0s_eq h.1.2, eqW0s_eq h.2]
  · exact eqW0_eq h

theorem eqW_eq {a b : AV} (h : eqW a b = true) : a = b := by
  unfold eqW at h
  split at h
  · simp only [Bool.and_eq_true] at h
    rw [beq_eq' h.1, eqW1_eq h.2]
  · rw [eqW0s_eq h]
  · exact eqW1_eq h

theorem eqWs_eq : ∀ {l m : List AV}, eqWs l m = true → l = m
  | [], [], _ => rfl
  | [], _ :: _, h => by cases h
  | _ :: _, [], h => by cases h
  | x :: l, y :: m, h => by
    have h : cond (eqW x y) (eqWs l m) false = true := h
    cases hb : eqW x y with
    | false => rw [hb] at h; cases h
    | true => rw [hb] at h; rw [eqW_eq hb, eqWs_eq h]

section
variable {R : Type} {r : R}

/-- These places hold these values. -/
noncomputable def chkM (l : List (Nat × AV)) (tm : Tr AV) (k : Option R) : Option R :=
  List.rec (motive := fun _ => Option R) k (fun x _ ih => tget tm x.1 fun o => match o with | some v => cond (eqW v x.2) ih none | none => none) l

theorem chkM_ok : ∀ {l : List (Nat × AV)} {tm : Tr AV} {k : Option R}, chkM l tm k = some r → k = some r ∧ TrSub (mkTr l) tm := by
  have key : ∀ {l : List (Nat × AV)} {tm : Tr AV} {k : Option R}, chkM l tm k = some r → k = some r ∧ Holds tm l := by
    intro l
    induction l with
    | nil => exact fun h => ⟨h, fun i x hx => by cases hx⟩
    | cons y l ih =>
      intro tm k h
      have h : (tget tm y.1 fun o => match o with | some v => cond (eqW v y.2) (chkM l tm k) none | none => none) = some r := h
      rw [tget_eq] at h
      cases hv : tm.get y.1 with
      | none => rw [hv] at h; cases h
      | some v =>
        rw [hv] at h
        obtain ⟨he, h⟩ := cond_some h
        obtain ⟨h1, h2⟩ := ih h
        refine ⟨h1, fun i x hx => ?_⟩
        rcases List.mem_cons.1 hx with e | e
        · cases e; rw [hv, eqW_eq he]
        · exact h2 i x e
  intro l H k h
  exact ⟨(key h).1, (key h).2.sub⟩

/-- These blocks are there. -/
noncomputable def chkH (l : List (Nat × Blk)) (H : Heap) (k : Option R) : Option R :=
  List.rec (motive := fun _ => Option R) k (fun x _ ih => tget H x.1 fun o => match o with
    | some ⟨T, es, opn, cells⟩ => (match x.2 with
      | ⟨T', es', opn', cells'⟩ => cond (Nat.beq T T' && Nat.beq es es' && (opn == opn') && eqWs cells cells') ih none)
    | none => none) l

theorem chkH_ok : ∀ {l : List (Nat × Blk)} {H : Heap} {k : Option R}, chkH l H k = some r → k = some r ∧ TrSub (mkTr l) H := by
  have key : ∀ {l : List (Nat × Blk)} {H : Heap} {k : Option R}, chkH l H k = some r → k = some r ∧ Holds H l := by
    intro l
    induction l with
    | nil => exact fun h => ⟨h, fun i x hx => by cases hx⟩
    | cons y l ih =>
      intro H k h
      obtain ⟨j, T', es', opn', cells'⟩ := y
      have h : (tget H j fun o => match o with
        | some ⟨T, es, opn, cells⟩ => cond (Nat.beq T T' && Nat.beq es es' && (opn == opn') && eqWs cells cells') (chkH l H k) none
        | none => none) = some r := h
      rw [tget_eq] at h
      cases hv : H.get j with
      | none => rw [hv] at h; cases h
      | some B =>
        rw [hv] at h
        obtain ⟨T, es, opn, cells⟩ := B
        obtain ⟨he, h⟩ := cond_some h
        simp only [Bool.and_eq_true, beq_iff_eq] at he
        obtain ⟨⟨⟨e1, e2⟩, e3⟩, e4⟩ := he
        obtain ⟨h1, h2⟩ := ih h
        refine ⟨h1, fun i x hx => ?_⟩
        rcases List.mem_cons.1 hx with e | e
        · cases e
          rw [hv, beq_eq' e1, beq_eq' e2, e3, eqWs_eq e4]
        · exact h2 i x e
  intro l H k h
  exact ⟨(key h).1, (key h).2.sub⟩

noncomputable def chkN (a b : Nat) (k : Option R) : Option R := cond (Nat.beq a b) k none
theorem chkN_ok {a b : Nat} {k : Option R} (h : chkN a b k = some r) : a = b ∧ k = some r := by
  obtain ⟨h1, h2⟩ := cond_some h
  exact ⟨beq_eq' h1, h2⟩
noncomputable def chkV (a b : AV) (k : Option R) : Option R := cond (eqW a b) k none
theorem chkV_ok {a b : AV} {k : Option R} (h : chkV a b k = some r) : a = b ∧ k = some r := by
  obtain ⟨h1, h2⟩ := cond_some h
  exact ⟨eqW_eq h1, h2⟩
noncomputable def chkL (a b : List AV) (k : Option R) : Option R := cond (eqWs a b) k none
theorem chkL_ok {a b : List AV} {k : Option R} (h : chkL a b k = some r) : a = b ∧ k = some r := by
  obtain ⟨h1, h2⟩ := cond_some h
  exact ⟨eqWs_eq h1, h2⟩
end
end Go.Proofs.YtnllmelmmcapcaaGreatDoor.Ev
