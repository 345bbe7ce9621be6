/- Regions that draw their order, the whole: also where a block is made beside a call. -/
import Derived.Test.YtnllmelmmcapcaaGreatDoorEvFd
namespace Go.Proofs.YtnllmelmmcapcaaGreatDoor.Ev
open Go Go.RowKit
set_option linter.unusedVariables false

section
variable (P : Program) (G : Tr (List AV)) {R : Type}

noncomputable def evP1 (ih : Ih R) (N n0 : Nat) (l : List It) : List Rd1 → Tr AV → Heap → Nat → (List Rd1 → Tr AV → Option R) → Option R :=
  List.rec (motive := fun _ => List Rd1 → Tr AV → Heap → Nat → (List Rd1 → Tr AV → Option R) → Option R) (fun Ls tm _ _ k => k Ls tm)
    (fun x _ next Ls tm H n k => cond (Nat.beq x.a.c 0) (evOp P G ih x.o tm H n fun v _ _ => putK N x.o.dst v tm fun tm => next Ls tm H n k)
      (match x.o.op with
      | .load t p => opd p tm fun a => cond (addrOk n0 a) (evLoad P G t a H fun v => putK N x.o.dst v tm fun tm => next ((t, a, v) :: Ls) tm H n k) none
      | _ => none)) l

noncomputable def evP3 (ih : Ih R) (N : Nat) (l : List It) : Tr AV → Heap → Nat → (Tr AV → Heap → Nat → Option R) → Option R :=
  List.rec (motive := fun _ => Tr AV → Heap → Nat → (Tr AV → Heap → Nat → Option R) → Option R) (fun tm H n k => k tm H n)
    (fun x _ next tm H n k => evOp P G ih x.o tm H n fun v H n => putK N x.o.dst v tm fun tm => next tm H n k) l

noncomputable def noTmp (tm : Tr AV) (d : Nat) (k : Option R) : Option R := tget tm d fun o => match o with | none => k | some _ => none

noncomputable def evFloat (ih : Ih R) (N : Nat) (fl : Fl) (tm : Tr AV) (H : Heap) (n : Nat) (k : Tr AV → Heap → Nat → Option R) : Option R :=
  cond (Nat.blt fl.dc N && Nat.blt fl.da N) (tset none 24 tm fl.dc fun tm => tset none 24 tm fl.da fun tm =>
    evP1 P G ih N n fl.p1 [] tm H n fun Ls tm => noTmp tm fl.dc (noTmp tm fl.da (
      allocK P fl.a.o tm fun T cells val => evOp P G ih fl.c.o tm H n fun vc H2 n2 => readsK P G H2 Ls (
        newK H2 n2 T 1 false cells fun H3 n3 => tset (some vc) 24 tm fl.dc fun tm => tset (some (valAV val n2)) 24 tm fl.da fun tm => evP3 P G ih N fl.p3 tm H3 n3 k)))) none

/-- A region that draws its order. -/
noncomputable def evDraw2 (ih : Ih R) : Ih R := fun N c tm H n k =>
  match c with
  | .region _ ops true => (match drawCls P ops fun cs => some cs with
    | some cs => evDr P G ih N ops.toList n ops.toList cs [] [] tm H n fun tm H n => k .normal tm H n
    | none => (match floatCls P ops with
      | some fl => evFloat P G ih N fl tm H n fun tm H n => k .normal tm H n
      | none => none))
  | _ => none
end

section
variable {R : Type} {P : Program} {G : Tr (List AV)} {r : R}

theorem evP1_ok {ih : Ih R} {N n : Nat} {X : Fx} {H : Heap} :
    ∀ (l : List It), (∀ x ∈ l, x.a.c = opCls P x.o.op ∧ X.eff x.k = false ∧ (x.a.c = 0 ∧ X.ls.contains x.k = false ∨ x.a.c = 1 ∧ X.ls.contains x.k = true)) → ∀ {Ls : List Rd1} {tm : Tr AV} {k : List Rd1 → Tr AV → Option R}, evP1 P G ih N n l Ls tm H n k = some r →
      ∃ L tm', k L tm' = some r ∧ (∀ x ∈ Ls, x ∈ L) ∧ ((∀ x ∈ Ls, ReadsAt P G x H) → ∀ x ∈ L, ReadsAt P G x H) ∧
      ∀ ρ w0 a w, GlobOk G w0 → RepT ρ n N tm a → Rep ρ H n w0 w → ∀ K : Act → World → Prop, (∀ a', RepT ρ n N tm' a' → K a' w) → wpFxI P (InCls P G ρ n w0 L) X K l a w
  | [], _, Ls, tm, k, h => ⟨Ls, tm, h, fun x hx => hx, fun h => h, fun ρ w0 a w hG hT hR K hK => hK a hT⟩
  | x :: l, hl, Ls, tm, k, h => by
    have h : cond (Nat.beq x.a.c 0) (evOp P G ih x.o tm H n fun v _ _ => putK N x.o.dst v tm fun tm => evP1 P G ih N n l Ls tm H n k)
      (match x.o.op with
      | .load t p => opd p tm fun a => cond (addrOk n a) (evLoad P G t a H fun v => putK N x.o.dst v tm fun tm => evP1 P G ih N n l ((t, a, v) :: Ls) tm H n k) none
      | _ => none) = some r := h
    obtain ⟨hc, he, hcl⟩ := hl x (List.mem_cons_self ..)
    have hl' := fun y hy => hl y (List.mem_cons_of_mem _ hy)
    cases e0 : Nat.beq x.a.c 0 with
    | true =>
      rw [e0, cond_true] at h
      obtain ⟨v, h, hd⟩ := evPure_ok (by rw [← hc]; exact beq_eq' e0) h
      obtain ⟨tm1, h, hp⟩ := putK_ok h
      obtain ⟨L, tm', h, h1, h2, h3⟩ := evP1_ok l hl' h
      refine ⟨L, tm', h, h1, h2, fun ρ w0 a w hG hT hR K hK => ?_⟩
      unfold wpFxI
      rw [if_neg (by rw [he]; simp)]
      exact ⟨_, fun w' _ => hd.reads hT hR w', h3 ρ w0 _ w hG (hp ρ n a hT (hd ρ w0 N a w hT hR).1) hR K hK⟩
    | false =>
      rw [e0, cond_false] at h
      have hls : X.ls.contains x.k = true := by
        rcases hcl with ⟨h0, _⟩ | ⟨_, h1⟩
        · exact absurd h0 (beq_ne' e0)
        · exact h1
      split at h
      · rename_i t p ho
        obtain ⟨av, h, hv⟩ := opd_ok h
        obtain ⟨had, h⟩ := cond_some h
        obtain ⟨v, h, hld⟩ := evLoad_ok h
        obtain ⟨tm1, h, hp⟩ := putK_ok h
        obtain ⟨L, tm', h, h1, h2, h3⟩ := evP1_ok l hl' h
        have hlt0 : av.lt n := by
          unfold addrOk at had
          split at had
          · simpa [AV.lt] using blt_lt had
          · simp [AV.lt]
          · cases had
        have hmem := h1 (t, av, v) (List.mem_cons_self ..)
        refine ⟨L, tm', h, fun y hy => h1 y (List.mem_cons_of_mem _ hy), fun hLs => h2 fun y hy => ?_, fun ρ w0 a w hG hT hR K hK => ?_⟩
        · rcases List.mem_cons.1 hy with rfl | hy
          · exact hld
          · exact hLs y hy
        · have hvn : v.lt n := (hld ρ n w0 w hG hR).2
          unfold wpFxI
          rw [if_neg (by rw [he]; simp)]
          refine ⟨conc ρ v, fun w' hw' => ?_, h3 ρ w0 _ w hG (hp ρ n a hT hvn) hR K hK⟩
          obtain ⟨ρ2, H2, n2, g1, g2, g3, g4⟩ := hw' hls
          obtain ⟨q1, _⟩ := g4 _ hmem ρ2 n2 w0 w' hG g3
          have ea : conc ρ2 av = conc ρ av := conc_ext g1 av hlt0
          have ev : conc ρ2 v = conc ρ v := conc_ext g1 v hvn
          have q1 : (Instr.loadAt t (conc ρ2 av)).run P w' = .ok (conc ρ2 v) w' := q1
          rw [ea, ev] at q1
          unfold OReads
          have : (execOp a.eval x.o).run P w' = .ok (.value (conc ρ v)) w' := by
            simp only [execOp, ho, (hv ρ n N a hT).1]
            exact run_v q1
          rw [this]
          exact ⟨rfl, rfl⟩
      · cases h

theorem evP3_ok {ih : Ih R} {N : Nat} {X : Fx}
    (hop : ∀ (o : Oper) {tm : Tr AV} {H : Heap} {n : Nat} {k : AV → Heap → Nat → Option R} {r : R}, evOp P G ih o tm H n k = some r → ∃ v H' n', k v H' n' = some r ∧ OpDoes P G o tm H n v H' n') :
    ∀ (l : List It), (∀ x ∈ l, x.a.c = opCls P x.o.op ∧ ((x.a.c = 0 ∧ X.eff x.k = false ∧ X.ls.contains x.k = false) ∨ (2 ≤ x.a.c ∧ X.eff x.k = true ∧ X.es.contains x.k = false))) → ∀ {tm : Tr AV} {H : Heap} {n : Nat} {k : Tr AV → Heap → Nat → Option R}, evP3 P G ih N l tm H n k = some r →
      ∃ tm' H' n', k tm' H' n' = some r ∧ ∀ (C : World → Prop) ρ w0 a w, GlobOk G w0 → RepT ρ n N tm a → Rep ρ H n w0 w → ∀ K : Act → World → Prop,
        (∀ ρ' a' w', Ext n ρ ρ' → n ≤ n' → RepT ρ' n' N tm' a' → Rep ρ' H' n' w0 w' → K a' w') → wpFxI P C X K l a w
  | [], _, tm, H, n, k, h => ⟨tm, H, n, h, fun C ρ w0 a w hG hT hR K hK => hK ρ a w (Ext.refl _ _) (Nat.le_refl _) hT hR⟩
  | x :: l, hl, tm, H, n, k, h => by
    have h : (evOp P G ih x.o tm H n fun v H n => putK N x.o.dst v tm fun tm => evP3 P G ih N l tm H n k) = some r := h
    obtain ⟨hc, hcl⟩ := hl x (List.mem_cons_self ..)
    have hl' := fun y hy => hl y (List.mem_cons_of_mem _ hy)
    rcases hcl with ⟨h0, he, hls⟩ | ⟨h2, he, hes⟩
    · obtain ⟨v, h, hd⟩ := evPure_ok (by rw [← hc]; exact h0) h
      obtain ⟨tm1, h, hp⟩ := putK_ok h
      obtain ⟨tm', H', n', h, h3⟩ := evP3_ok hop l hl' h
      refine ⟨tm', H', n', h, fun C ρ w0 a w hG hT hR K hK => ?_⟩
      unfold wpFxI
      rw [if_neg (by rw [he]; simp)]
      exact ⟨_, fun w' _ => hd.reads hT hR w', h3 C ρ w0 _ w hG (hp ρ n a hT (hd ρ w0 N a w hT hR).1) hR K hK⟩
    · obtain ⟨v, H1, n1, h, hd⟩ := hop x.o h
      obtain ⟨tm1, h, hp⟩ := putK_ok h
      obtain ⟨tm', H', n', h, h3⟩ := evP3_ok hop l hl' h
      refine ⟨tm', H', n', h, fun C ρ w0 a w hG hT hR K hK => ?_⟩
      unfold wpFxI
      rw [if_pos he]
      refine Oper.wp_mono (fun a' w' hq => ?_) (hd ρ w0 N a w hG hT hR)
      obtain ⟨ρ1, e1, e2, e3, rfl, e5⟩ := hq
      exact ⟨(fun hh => by rw [hes] at hh; cases hh), h3 C ρ1 w0 _ w' hG (hp ρ1 n1 a (hT.mono e1 e2) e3) e5 K (fun ρ' a' w' f1 f2 f3 f4 => hK ρ' a' w' (e1.trans e2 f1) (by omega) f3 f4)⟩

theorem noTmp_ok {tm : Tr AV} {d : Nat} {k : Option R} (h : noTmp tm d k = some r) : tm.get d = none ∧ k = some r := by
  unfold noTmp at h
  rw [tget_eq] at h
  cases e : tm.get d with
  | none => rw [e] at h; exact ⟨rfl, h⟩
  | some v => rw [e] at h; cases h

theorem put_at {a : Act} {d : Nat} {u : Value} (hd : d < a.tmps.size) : (a.put (some d) u).tmps[d]? = some u := by simp [Act.put, hd]
theorem put_ne {a : Act} {d t : Nat} {u : Value} (hd : d ≠ t) : (a.put (some d) u).tmps[t]? = a.tmps[t]? := by
  simp only [Act.put, Array.getElem?_setIfInBounds]; rw [if_neg hd]

theorem evFloat_ok (hm : P.follows .mixedOrders = true) {ih : Ih R} (hop : ∀ (o : Oper) {tm : Tr AV} {H : Heap} {n : Nat} {k : AV → Heap → Nat → Option R} {r : R}, evOp P G ih o tm H n k = some r → ∃ v H' n', k v H' n' = some r ∧ OpDoes P G o tm H n v H' n')
    {ops : Array Oper} {fl : Fl} {X : Fx} {listed : Array Bool} (hf : FlOk P ops fl X listed) {id N : Nat} {tm : Tr AV} {H : Heap} {n : Nat} {k : Tr AV → Heap → Nat → Option R} (h : evFloat P G ih N fl tm H n k = some r) :
    ∃ tm' H' n', k tm' H' n' = some r ∧ CodeDoes P G N (.region id ops true) tm H n .normal tm' H' n' := by
  unfold evFloat at h
  obtain ⟨hN, h⟩ := cond_some h
  rw [Bool.and_eq_true] at hN
  have hdc := blt_lt hN.1
  have hda := blt_lt hN.2
  obtain ⟨tmA, h, gA⟩ := tset_some _ h
  obtain ⟨tmB, h, gB⟩ := tset_some _ h
  obtain ⟨L, tm1, h, _, hL, hp1⟩ := evP1_ok (X := X) fl.p1 (fun x hx => ⟨(hf.val x (.inr (.inr (.inl hx)))).2.2, hf.p1 x hx⟩) h
  have hL := hL (fun x hx => by simp at hx)
  obtain ⟨n1, h⟩ := noTmp_ok h
  obtain ⟨n2', h⟩ := noTmp_ok h
  obtain ⟨T, cells, val, cs, h, hcl, hcs, hmk⟩ := allocK_ok h
  obtain ⟨vc, H2, n2, h, hdC⟩ := hop fl.c.o h
  obtain ⟨h, hrd⟩ := readsK_ok h
  obtain ⟨H3, hH3, h⟩ := newK_some h
  obtain ⟨tm2, h, g2⟩ := tset_some _ h
  obtain ⟨tm3, h, g3⟩ := tset_some _ h
  obtain ⟨tm', H', n', h, hp3⟩ := evP3_ok (X := X) hop fl.p3 (fun x hx => ⟨(hf.val x (.inr (.inr (.inr hx)))).2.2, hf.p3 x hx⟩) h
  refine ⟨tm', H', n', h, fun ρ w0 a w hG hT hR => wp_region_any hm ?_⟩
  suffices hmain : ∀ w, Rep ρ H n w0 w → wpAny P .any ops (Left P w0 ρ n N .normal tm' H' n') ops.size (Array.replicate ops.size false) a w from hmain _ hR.drew
  clear hR
  intro w hR
  have hTB : RepT ρ n N tmB a := (hT.erase gA).erase gB
  have hC0 : ∀ w, Rep ρ H n w0 w → InCls P G ρ n w0 L w := fun w hR => ⟨ρ, H, n, Ext.refl _ _, Nat.le_refl _, hR, hL⟩
  -- the end
  have fin : ∀ (l : List It) (lst : Array Bool), lst.size = ops.size → (∀ j, j < ops.size → lst.getD j false = true ∨ ∃ x ∈ l, x.k = j) → Region.ready .any ops (setAll lst l) = [] := fun l lst hs hj => by
    refine ready_nil (by rw [setAll_size]; exact hs) fun j hj' => ?_
    rcases hj j hj' with h | ⟨x, hx, rfl⟩
    · exact setAll_true l _ _ h
    · exact setAll_mem l _ x hx (by omega)
  have hls : listed.size = ops.size := by rw [hf.mid, setAll_size]; simp
  have hl1 : ∀ x ∈ fl.p1, listed.getD x.k false = true := fun x hx => by
    rw [hf.mid]; exact setAll_mem _ _ x hx (by simpa using (Array.getElem?_eq_some_iff.1 (hf.val x (.inr (.inr (.inl hx)))).1).1)
  have hck : fl.c.k < ops.size := (Array.getElem?_eq_some_iff.1 (hf.val _ (.inl rfl)).1).1
  have hak : fl.a.k < ops.size := (Array.getElem?_eq_some_iff.1 (hf.val _ (.inr (.inl rfl))).1).1
  have covC : ∀ j, j < ops.size → (listed.setIfInBounds fl.a.k true).getD j false = true ∨ ∃ x ∈ fl.c :: fl.p3, x.k = j := fun j hj => by
    obtain ⟨x, hx, rfl⟩ := hf.cover j hj
    rcases hx with rfl | rfl | hx | hx
    · exact .inr ⟨_, List.mem_cons_self .., rfl⟩
    · exact .inl (by simp [hls, hak])
    · exact .inl (getD_set_true (hl1 x hx))
    · exact .inr ⟨x, List.mem_cons_of_mem _ hx, rfl⟩
  have covA : ∀ j, j < ops.size → (listed.setIfInBounds fl.c.k true).getD j false = true ∨ ∃ x ∈ fl.a :: fl.p3, x.k = j := fun j hj => by
    obtain ⟨x, hx, rfl⟩ := hf.cover j hj
    rcases hx with rfl | rfl | hx | hx
    · exact .inl (by simp [hls, hck])
    · exact .inr ⟨_, List.mem_cons_self .., rfl⟩
    · exact .inl (getD_set_true (hl1 x hx))
    · exact .inr ⟨x, List.mem_cons_of_mem _ hx, rfl⟩
  have unl : ∀ {l : List It} {lst : Array Bool}, lst.size = ops.size → (∀ j, j < ops.size → lst.getD j false = true ∨ ∃ x ∈ l, x.k = j) → ∀ j, j < ops.size → lst.getD j true = false → ∃ x ∈ l ++ [], x.k = j := fun {l lst} hs hc j hj hu => by
    rw [List.append_nil]
    rcases hc j hj with h | h
    · have hj' : lst[j]? = some (lst[j]'(by omega)) := Array.getElem?_eq_getElem _
      rw [Array.getD_eq_getD_getElem?, hj'] at h hu
      have h : lst[j]'(by omega) = true := h
      have hu : lst[j]'(by omega) = false := hu
      rw [h] at hu; cases hu
    · exact h
  have val2 : ∀ x, x = fl.c ∨ x = fl.a ∨ x ∈ fl.p1 ∨ x ∈ fl.p3 → ops[x.k]? = some x.o ∧ x.o.guard = none := fun x hx => ⟨(hf.val x hx).1, (hf.val x hx).2.1⟩
  -- what is behind both
  have tail : ∀ (lst : Array Bool) ρ3 a3 w3, RepT ρ3 (n2 + 1) N tm3 a3 → Rep ρ3 H3 (n2 + 1) w0 w3 → Ext n ρ ρ3 → n ≤ n2 → Region.ready .any ops (setAll lst fl.p3) = [] →
      wpFxI P (InCls P G ρ n w0 L) X (fun a' w' => Closed X (setAll lst fl.p3) → (NoEt X (setAll lst fl.p3) → InCls P G ρ n w0 L w') → wpAnyF P ops (InCls P G ρ n w0 L) X (fun a' w' => Left P w0 ρ n N .normal tm' H' n' .normal a' w') 0 (setAll lst fl.p3) a' w') fl.p3 a3 w3 :=
    fun lst ρ3 a3 w3 hT3 hR3 hE hle hnil => hp3 _ ρ3 w0 a3 w3 hG hT3 hR3 _ fun ρ' a' w' e1 e2 e3 e4 _ _ => ⟨hnil, rfl, ρ', hE.trans (by omega) e1, by omega, e3, e4⟩
  have size2 : ∀ {x : It} {a1 : Act} {u : Value}, (a1.put (some fl.dc) u).tmps.size = a1.tmps.size := by intros; simp [Act.put]
  have goal : wpAnyF P ops (InCls P G ρ n w0 L) X (fun a' w' => Left P w0 ρ n N .normal tm' H' n' .normal a' w') ops.size (Array.replicate ops.size false) a w := by
    have hcl0 : Closed X (Array.replicate ops.size false) := fun j k hj _ => by rw [getD_replicate_false] at hj; cases hj
    rw [hf.len]
    rw [← hf.len]
    have hgo := wpAnyF_ord (P := P) (C := InCls P G ρ n w0 L) (Q := fun a' w' => Left P w0 ρ n N .normal tm' H' n' .normal a' w') hf.sound hf.ls hf.sel (f := fl.p3.length + 1 + 1) (fl.c :: fl.a :: fl.p3) fl.p1 (Array.replicate ops.size false) a w
      (fun x hx => val2 x (by simp only [List.mem_append, List.mem_cons] at hx; rcases hx with h | h | h | h <;> simp [h])) hf.ord1 (by simp) hcl0 (fun _ => hC0 w hR)
      (fun j hj _ => by
        obtain ⟨x, hx, hk⟩ := hf.cover j hj
        exact ⟨x, by simp only [List.mem_append, List.mem_cons]; rcases hx with h | h | h | h <;> simp [h], hk⟩)
      (hp1 ρ w0 a w hG hTB hR _ fun a1 hT1 hcl1 hCw => ?_)
    · rw [← hf.len] at hgo; exact hgo
    · rw [← hf.mid] at hcl1 hCw ⊢
      refine wpAnyF_pair (f := fl.p3.length + 1) (val2 _ (.inl rfl)) (val2 _ (.inr (.inl rfl))) hf.ec hf.ea hf.rc hf.only ?_ fun hra => ?_
      · -- the call first
        refine Oper.wp_mono (fun a2 w2 hq => ?_) (hdC ρ w0 N a1 w hG hT1 hR)
        obtain ⟨ρ2, e1, e2, e3, rfl, e5⟩ := hq
        have hC2 : InCls P G ρ n w0 L w2 := ⟨ρ2, H2, n2, e1, e2, e5, hrd⟩
        refine ⟨fun _ => hC2, ?_⟩
        have hlen : fl.p3.length + 1 = (fl.a :: fl.p3).length + 0 := by simp
        rw [hlen]
        have hT2 : RepT ρ2 n2 N tm1 (a1.put fl.c.o.dst (conc ρ2 vc)) := by rw [hf.dc]; exact (hT1.mono e1 e2).fresh n1 _
        refine wpAnyF_ord (P := P) hf.sound hf.ls hf.sel [] (fl.a :: fl.p3) _ _ w2 (fun x hx => val2 x (by simp only [List.append_nil, List.mem_cons] at hx; rcases hx with h | h <;> simp [h])) hf.ordA (by simp [hls]) (hcl1.add hf.sound hf.rc) (fun _ => hC2)
          (unl (by simp [hls]) covA) ?_
        unfold wpFxI
        rw [if_pos hf.ea]
        unfold Oper.wp
        have hrun := hmk ρ2 n2 N _ w2 hT2
        refine upon_false hrun ⟨fun _ => ⟨ρ2, H2, n2, e1, e2, e5.besides _, hrd⟩, ?_⟩
        obtain ⟨ρ3, f1, f2, f3, _, f5⟩ := e5.new (T := T) (es := 1) (c := 0) (opn := false) (cells := cells) (cs := cs) hH3 (fun v hv => hcl v hv _) (fun i v hv => by rw [← hcs ρ2, List.getElem?_toArray, concs_get, hv]; rfl) (fun e => by cases e) (fun _ => by rw [← hcs ρ2, List.size_toArray, concs_length])
        refine tail _ ρ3 _ _ ?_ f5 (e1.trans e2 f1) e2 (fin (fl.a :: fl.p3) _ (by simp [hls]) covA)
        rw [hf.da]
        have hT3 : RepT ρ3 (n2 + 1) N tm1 ((a1.put fl.c.o.dst (conc ρ2 vc)).put (some fl.da) (valV val w2.heap.size)) := ((hT2.mono f1 (by omega)).fresh n2' _)
        have hs1 : a1.tmps.size = N := hT1.size
        refine (hT3.set (d := fl.dc) (AV.lt_mono (by omega) vc e3) ?_ g2).set (valAV_lt val n2) ?_ g3
        · rw [put_ne (Ne.symm hf.ne), hf.dc, put_at (by rw [hs1]; exact hdc), conc_ext f1 vc e3]
        · rw [put_at (by rw [hf.dc]; simp [Act.put, hs1, hda]), valAV_conc f2 f3]
      · -- the block first
        have hrun := hmk ρ n N a1 w hT1
        unfold Oper.wp
        have hCA : InCls P G ρ n w0 L (w.alloc (.cells cs T)) := hC0 _ (hR.besides _)
        refine upon_false hrun ⟨fun _ => hCA, ?_⟩
        have hlen : fl.p3.length + 1 = (fl.c :: fl.p3).length + 0 := by simp
        rw [hlen]
        refine wpAnyF_ord (P := P) hf.sound hf.ls hf.sel [] (fl.c :: fl.p3) _ _ _ (fun x hx => val2 x (by simp only [List.append_nil, List.mem_cons] at hx; rcases hx with h | h <;> simp [h])) hf.ordC (by simp [hls]) (hcl1.add hf.sound hra) (fun _ => hCA)
          (unl (by simp [hls]) covC) ?_
        unfold wpFxI
        rw [if_pos hf.ec]
        have hRf := hR.framed (.cells cs T)
        generalize hfr : (fun g => if g = w.heap.size then some (Obj.cells cs T) else ρ.fr g) = f at hRf
        have hTA : RepT { ρ with fr := f } n N tm1 (a1.put fl.a.o.dst (valV val w.heap.size)) := by rw [hf.da]; exact (hT1.fr f).fresh n2' _
        refine Oper.wp_mono (fun a2 w2 hq => ?_) (hdC _ w0 N _ _ hG hTA hRf)
        obtain ⟨ρ2, e1, e2, e3, rfl, e5⟩ := hq
        have hfr2 : ρ2.fr = f := e1.fr
        have hg : ρ2.fr w.heap.size = some (.cells cs T) := by rw [hfr2, ← hfr]; simp
        have hsub : ∀ g o, ρ.fr g = some o → ρ2.fr g = some o := fun g o ho => by
          rw [hfr2, ← hfr]
          have hne : g ≠ w.heap.size := fun e => by rw [e, hR.fr_new] at ho; cases ho
          simp [hne, ho]
        obtain ⟨ρ3, f1, f2, f3, f5⟩ := e5.taken (f := ρ.fr) hR.upd.size hg hsub hR.fr_new hH3 (fun v hv => hcl v hv _) hcs
        have hE2 : Ext n ρ { ρ2 with fr := ρ.fr } := ⟨e1.blk, e1.sh, e1.cap, e1.byte, e1.any, rfl⟩
        have hR2 : Rep { ρ2 with fr := ρ.fr } H2 n2 w0 w2 := e5.fr (fun g o ho => e5.frame g o (hsub g o ho)) (fun b B hb => by
          cases e : ρ.fr (ρ2.blk b) with
          | none => rfl
          | some o => have := e5.apart b B hb; rw [hsub _ _ e] at this; cases this)
        refine ⟨fun _ => ⟨_, H2, n2, hE2, e2, hR2, hrd⟩, ?_⟩
        refine tail _ ρ3 _ _ ?_ f5 (hE2.trans e2 f1) e2 (fin (fl.c :: fl.p3) _ (by simp [hls]) covC)
        have hs1 : a1.tmps.size = N := hT1.size
        have hT2 : RepT ρ3 (n2 + 1) N tm1 ((a1.put fl.a.o.dst (valV val w.heap.size)).put fl.c.o.dst (conc ρ2 vc)) := by
          have h1 : RepT ρ n N tm1 ((a1.put (some fl.da) (valV val w.heap.size)).put (some fl.dc) (conc ρ2 vc)) := (hT1.fresh n2' _).fresh n1 _
          rw [hf.da, hf.dc]
          exact h1.mono (hE2.trans e2 f1) (by omega)
        have hcv : conc ρ3 vc = conc ρ2 vc := by rw [conc_ext f1 vc e3, conc_fr]
        refine (hT2.set (d := fl.dc) (AV.lt_mono (by omega) vc e3) ?_ g2).set (valAV_lt val n2) ?_ g3
        · rw [hf.dc, put_at (by rw [hf.da]; simp [Act.put, hs1, hdc]), hcv]
        · rw [hf.dc, put_ne hf.ne, hf.da, put_at (by rw [hs1]; exact hda), valAV_conc f2 f3]
  have h2 := wpAny_of_F (Q' := Left P w0 ρ n N .normal tm' H' n') hf.sound hf.ls (fun _ _ h => h) ops.size (Array.replicate ops.size false) a w (by simp)
    (fun j k hj _ => by rw [getD_replicate_false] at hj; cases hj) (fun _ => hC0 w hR) goal
  exact h2

theorem evDraw2_ok (hm : P.follows .mixedOrders = true) (hN : NoCount P G) {ih : Ih R} (hih : IhOk P G ih) : IhOk P G (evDraw2 P G ih) := by
  intro N c tm H n k r h
  cases c with
  | region id ops draw =>
    cases draw with
    | false => cases h
    | true =>
      cases hd : (drawCls P ops fun cs => some cs) with
      | some cs =>
        refine evDraw_ok hm hN hih (N := N) (c := .region id ops true) (tm := tm) (H := H) (n := n) (k := k) (r := r) ?_
        have h : (match drawCls P ops fun cs => some cs with
          | some cs => evDr P G ih N ops.toList n ops.toList cs [] [] tm H n fun tm H n => k .normal tm H n
          | none => (match floatCls P ops with
            | some fl => evFloat P G ih N fl tm H n fun tm H n => k .normal tm H n
            | none => none)) = some r := h
        show (match drawCls P ops fun cs => some cs with
          | some cs => evDr P G ih N ops.toList n ops.toList cs [] [] tm H n fun tm H n => k .normal tm H n
          | none => none) = some r
        rw [hd] at h ⊢
        exact h
      | none =>
        have h : (match drawCls P ops fun cs => some cs with
          | some cs => evDr P G ih N ops.toList n ops.toList cs [] [] tm H n fun tm H n => k .normal tm H n
          | none => (match floatCls P ops with
            | some fl => evFloat P G ih N fl tm H n fun tm H n => k .normal tm H n
            | none => none)) = some r := h
        rw [hd] at h
        simp only at h
        split at h
        · rename_i fl hfl
          obtain ⟨X, listed, hf⟩ := floatCls_ok hfl
          obtain ⟨tm', H', n', h, hdo⟩ := evFloat_ok hm (fun o {tm H n k r} h => evOp_ok (fun c ho {k r} h => evCallOp_ok hN hih ho h) h) hf (id := id) h
          exact ⟨_, _, _, _, h, trivial, hdo⟩
        · cases h
  | _ => cases h
end
end Go.Proofs.YtnllmelmmcapcaaGreatDoor.Ev
