/- Regions that draw their order: what the walk comes to. -/
import Derived.Test.YtnllmelmmcapcaaGreatDoorEvN
namespace Go.Proofs.YtnllmelmmcapcaaGreatDoor.Ev
open Go Go.RowKit
set_option linter.unusedVariables false

theorem leq_eq : ∀ {a b : List Nat}, leq a b = true → a = b
  | [], [], _ => rfl
  | [], _ :: _, h => by cases h
  | _ :: _, [], h => by cases h
  | x :: a, y :: b, h => by
    have h : cond (Nat.beq x y) (leq a b) false = true := h
    obtain ⟨h1, h2⟩ := cond_t h
    rw [beq_eq' h1, leq_eq h2]

theorem eqS_eq {a b : AV} (h : eqS a b = true) : a = b := by
  unfold eqS at h
  split at h
  case h_4 => rw [leq_eq h]
  all_goals first
    | rfl
    | cases h; done
    | (simp only [Bool.and_eq_true, decide_eq_true_eq, beq_iff_eq, Nat.beq_eq] at h; simp [h])

theorem eqSL_eq : ∀ {a b : List AV}, eqSL a b = true → a = b
  | [], [], _ => rfl
  | [], _ :: _, h => by cases h
  | _ :: _, [], h => by cases h
  | x :: a, y :: b, h => by
    have h : cond (eqS x y) (eqSL a b) false = true := h
    obtain ⟨h1, h2⟩ := cond_t h
    rw [eqS_eq h1, eqSL_eq h2]

theorem eqA_eq {a b : AV} (h : eqA a b = true) : a = b := by
  unfold eqA at h
  split at h
  · rw [eqSL_eq h]
  · exact eqS_eq h

theorem eqI_eq {a b : AV} (h : eqI a b = true) : a = b := by
  unfold eqI at h
  split at h
  · simp only [Bool.and_eq_true] at h
    rw [beq_eq' h.1, eqA_eq h.2]
  · exact eqS_eq h

theorem eqL_eq : ∀ {a b : List AV}, eqL a b = true → a = b
  | [], [], _ => rfl
  | [], _ :: _, h => by cases h
  | _ :: _, [], h => by cases h
  | x :: a, y :: b, h => by
    have h : cond (eqI x y) (eqL a b) false = true := h
    obtain ⟨h1, h2⟩ := cond_t h
    rw [eqI_eq h1, eqL_eq h2]

theorem eqV_eq {a b : AV} (h : eqV a b = true) : a = b := by
  unfold eqV at h
  split at h
  · rw [eqL_eq h]
  · exact eqI_eq h

section
variable {R : Type} {P : Program} {G : Gl} {r : R}

/-- The kinds from place j on are those that X tells of. -/
def ClsOk (P : Program) (X : Fx) (l : List Oper) (j : Nat) (cs : List Nat) : Prop :=
  ∀ (i : Nat) o c, l[i]? = some o → cs[i]? = some c → (c = 0 → opCls P o.op = 0 ∧ X.eff (j + i) = false ∧ X.ls.contains (j + i) = false) ∧ (c = 1 → X.eff (j + i) = false ∧ X.ls.contains (j + i) = true) ∧ (c = 2 → X.eff (j + i) = true) ∧ (c = 3 → X.eff (j + i) = true ∧ X.es.contains (j + i) = false)

theorem ClsOk.tail {X : Fx} {o : Oper} {l : List Oper} {j : Nat} {cs : List Nat} (h : ClsOk P X (o :: l) j cs) : ClsOk P X l (j + 1) (cs.drop 1) := by
  intro i o' c ho hc
  have := h (i + 1) o' c (by simpa using ho) (by rw [List.getElem?_drop] at hc; rw [Nat.add_comm]; exact hc)
  rwa [show j + (i + 1) = j + 1 + i by omega] at this

theorem OpPure.reads {o : Oper} {tm : Tr AV} {H : Heap} {n N : Nat} {v : AV} {ρ : Env} {w0 w : World} {a : Act} (h : OpPure P o tm H n v) (hT : RepT ρ n N tm a) (hR : Rep ρ H n w0 w) (w' : World) : OReads P o a w' (conc ρ v) := by
  unfold OReads
  rw [(h ρ w0 N a w hT hR).2 w']
  exact ⟨rfl, rfl⟩

theorem lget0 {cs : List Nat} {k : Nat → Option R} (h : lget cs 0 k = some r) : ∃ c, cs[0]? = some c ∧ k c = some r := by
  rw [lget_eq] at h
  cases hc : cs[0]? with
  | none => rw [hc] at h; cases h
  | some c => rw [hc] at h; exact ⟨c, rfl, h⟩
theorem ldrop1 {cs : List Nat} {k : List Nat → Option R} (h : ldrop cs 1 k = some r) : k (cs.drop 1) = some r := by
  rw [ldrop_eq] at h
  split at h
  · exact h
  · cases h

theorem evDrT_ok {ih : Ih R} {N : Nat} {ops : List Oper} {X : Fx}
    (hop : ∀ o ∈ ops, ∀ {tm : Tr AV} {H : Heap} {n : Nat} {k : AV → Heap → Nat → Option R} {r : R}, evOp P G ih o tm H n k = some r → ∃ v H' n', k v H' n' = some r ∧ OpDoes P G o tm H n v H' n') :
    ∀ (l : List Oper), (∀ o ∈ l, o ∈ ops) → ∀ (j : Nat) (cs : List Nat), ClsOk P X l j cs → ∀ {tm : Tr AV} {H : Heap} {n : Nat} {k : Tr AV → Heap → Nat → Option R}, evDrT P G ih N ops l cs tm H n k = some r →
      ∃ tm' H' n', k tm' H' n' = some r ∧ ∀ (C : World → Prop) ρ w0 a w, GlobOk G w0 → RepT ρ n N tm a → Rep ρ H n w0 w → ∀ Q : Act → World → Prop,
        (∀ ρ' a' w', Ext n ρ ρ' → n ≤ n' → RepT ρ' n' N tm' a' → Rep ρ' H' n' w0 w' → Q a' w') → wpFx P ops.toArray C X Q l j a w
  | [], _, j, cs, _, tm, H, n, k, h => ⟨tm, H, n, h, fun C ρ w0 a w hG hT hR Q hQ => hQ ρ a w (Ext.refl _ _) (Nat.le_refl _) hT hR⟩
  | o :: l, hl, j, cs, hcls, tm, H, n, k, h => by
    have h : (lget cs 0 fun c => ldrop cs 1 fun cs => wantK ops o tm fun want => cond want
      (cond (Nat.beq c 0 || Nat.beq c 3) (evOp P G ih o tm H n fun v H n => putK N o.dst v tm fun tm => evDrT P G ih N ops l cs tm H n k) none)
      (putK N o.dst (.tup []) tm fun tm => evDrT P G ih N ops l cs tm H n k)) = some r := h
    obtain ⟨c, hc, h⟩ := lget0 h
    have h := ldrop1 h
    obtain ⟨b, h, hw⟩ := wantK_ok h
    have hl' : ∀ o ∈ l, o ∈ ops := fun o ho => hl o (List.mem_cons_of_mem _ ho)
    have hc0 := hcls 0 o c rfl hc
    rw [Nat.add_zero] at hc0
    cases b with
    | true =>
      simp only [cond_true] at h
      obtain ⟨hcc, h⟩ := cond_some h
      rw [Bool.or_eq_true] at hcc
      rcases hcc with hcc | hcc
      · obtain ⟨v, h, hd⟩ := evPure_ok (hc0.1 (beq_eq' hcc)).1 h
        obtain ⟨tm1, h, hp⟩ := putK_ok h
        obtain ⟨tm', H', n', h, hrest⟩ := evDrT_ok hop l hl' (j + 1) _ hcls.tail h
        refine ⟨tm', H', n', h, fun C ρ w0 a w hG hT hR Q hQ => ?_⟩
        unfold wpFx
        rw [if_pos (hw ρ n N a hT), if_neg (by rw [(hc0.1 (beq_eq' hcc)).2.1]; simp)]
        exact ⟨_, fun w' _ => hd.reads hT hR w', hrest C ρ w0 _ w hG (hp ρ n a hT (hd ρ w0 N a w hT hR).1) hR Q hQ⟩
      · have hk := hc0.2.2.2 (beq_eq' hcc)
        obtain ⟨v, H1, n1, h, hd⟩ := hop o (hl o (List.mem_cons_self ..)) h
        obtain ⟨tm1, h, hp⟩ := putK_ok h
        obtain ⟨tm', H', n', h, hrest⟩ := evDrT_ok hop l hl' (j + 1) _ hcls.tail h
        refine ⟨tm', H', n', h, fun C ρ w0 a w hG hT hR Q hQ => ?_⟩
        unfold wpFx
        rw [if_pos (hw ρ n N a hT), if_pos hk.1]
        refine Oper.wp_mono (fun a' w' hq => ?_) (hd ρ w0 N a w hG hT hR)
        obtain ⟨ρ1, e1, e2, e3, rfl, e5⟩ := hq
        exact ⟨(fun hh => by rw [hk.2] at hh; cases hh), hrest C ρ1 w0 _ w' hG (hp ρ1 n1 a (hT.mono e1 e2) e3) e5 Q (fun ρ' a' w' f1 f2 f3 f4 => hQ ρ' a' w' (e1.trans e2 f1) (by omega) f3 f4)⟩
    | false =>
      simp only [cond_false] at h
      obtain ⟨tm1, h, hp⟩ := putK_ok h
      obtain ⟨tm', H', n', h, hrest⟩ := evDrT_ok hop l hl' (j + 1) _ hcls.tail h
      refine ⟨tm', H', n', h, fun C ρ w0 a w hG hT hR Q hQ => ?_⟩
      unfold wpFx
      rw [if_neg (by rw [hw ρ n N a hT]; simp)]
      have := hp ρ n a hT (by simp [AV.lt, ltAll])
      simp only [conc, concs] at this
      exact hrest C ρ w0 _ w hG this hR Q hQ
end
end Go.Proofs.YtnllmelmmcapcaaGreatDoor.Ev
namespace Go.Proofs.YtnllmelmmcapcaaGreatDoor.Ev
open Go Go.RowKit
set_option linter.unusedVariables false

section
variable {R : Type} {P : Program} {G : Gl} {r : R}

/-- A load reads so, wherever memory is as H tells. -/
def ReadsAt (P : Program) (G : Gl) (x : Rd1) (H : Heap) : Prop :=
  ∀ ρ n w0 w, GlobOk G w0 → Rep ρ H n w0 w → (Instr.loadAt x.1 (conc ρ x.2.1)).run P w = .ok (conc ρ x.2.2) w ∧ x.2.2.lt n

/-- The class: memory is as some heap tells in which all of L reads so. -/
def InCls (P : Program) (G : Gl) (ρ0 : Env) (n0 : Nat) (w0 : World) (L : List Rd1) (w : World) : Prop :=
  ∃ ρ H n, Ext n0 ρ0 ρ ∧ n0 ≤ n ∧ Rep ρ H n w0 w ∧ ∀ x ∈ L, ReadsAt P G x H

theorem readsK_ok {H : Heap} : ∀ {Ls : List Rd1} {k : Option R}, readsK P G H Ls k = some r → k = some r ∧ ∀ x ∈ Ls, ReadsAt P G x H
  | [], k, h => ⟨h, fun x hx => by simp at hx⟩
  | x :: Ls, k, h => by
    have h : (evLoad P G x.1 x.2.1 H fun u => cond (eqV u x.2.2) (readsK P G H Ls k) none) = some r := h
    obtain ⟨v, h, hv⟩ := evLoad_ok h
    obtain ⟨he, hr⟩ := cond_some h
    clear h
    have he := eqV_eq he
    subst he
    obtain ⟨h1, h2⟩ := readsK_ok hr
    refine ⟨h1, fun y hy => ?_⟩
    rcases List.mem_cons.1 hy with rfl | hy
    · exact hv
    · exact h2 y hy

theorem heapsK_ok {t : TypeId} {a v : AV} : ∀ {Hs : List Heap} {k : Option R}, heapsK P G Hs t a v k = some r → k = some r ∧ ∀ H ∈ Hs, ReadsAt P G (t, a, v) H
  | [], k, h => ⟨h, fun x hx => by simp at hx⟩
  | H :: Hs, k, h => by
    have h : (evLoad P G t a H fun u => cond (eqV u v) (heapsK P G Hs t a v k) none) = some r := h
    obtain ⟨u, h, hv⟩ := evLoad_ok h
    obtain ⟨he, hr⟩ := cond_some h
    clear h
    have he := eqV_eq he
    subst he
    obtain ⟨h1, h2⟩ := heapsK_ok hr
    refine ⟨h1, fun y hy => ?_⟩
    rcases List.mem_cons.1 hy with rfl | hy
    · exact hv
    · exact h2 y hy
end
end Go.Proofs.YtnllmelmmcapcaaGreatDoor.Ev
namespace Go.Proofs.YtnllmelmmcapcaaGreatDoor.Ev
open Go Go.RowKit
set_option linter.unusedVariables false

section
variable {R : Type} {P : Program} {G : Gl} {r : R}

theorem evDr_ok {ih : Ih R} {N n0 : Nat} {ops : List Oper} {X : Fx}
    (hop : ∀ o ∈ ops, ∀ {tm : Tr AV} {H : Heap} {n : Nat} {k : AV → Heap → Nat → Option R} {r : R}, evOp P G ih o tm H n k = some r → ∃ v H' n', k v H' n' = some r ∧ OpDoes P G o tm H n v H' n') :
    ∀ (l : List Oper), (∀ o ∈ l, o ∈ ops) → ∀ (j : Nat) (cs : List Nat), ClsOk P X l j cs → ∀ {Hs : List Heap} {Ls : List Rd1} {tm : Tr AV} {H : Heap} {n : Nat} {k : Tr AV → Heap → Nat → Option R}, evDr P G ih N ops n0 l cs Hs Ls tm H n k = some r →
      ∃ tm' H' n' L, k tm' H' n' = some r ∧ (∀ x ∈ Ls, x ∈ L) ∧ (∀ H'' ∈ H :: Hs, (∀ x ∈ Ls, ReadsAt P G x H'') → ∀ x ∈ L, ReadsAt P G x H'') ∧
      ∀ ρ0 ρ w0 a w w00 H0, GlobOk G w0 → Rep ρ0 H0 n0 w0 w00 → (∀ x ∈ L, ReadsAt P G x H0) → n0 ≤ n → Ext n0 ρ0 ρ → RepT ρ n N tm a → Rep ρ H n w0 w → (∀ x ∈ Ls, ReadsAt P G x H) → ∀ Q : Act → World → Prop,
        (∀ ρ' a' w', Ext n ρ ρ' → n ≤ n' → RepT ρ' n' N tm' a' → Rep ρ' H' n' w0 w' → Q a' w') → wpFx P ops.toArray (InCls P G ρ0 n0 w0 L) X Q l j a w
  | [], _, j, cs, _, Hs, Ls, tm, H, n, k, h => ⟨tm, H, n, Ls, h, fun x hx => hx, fun _ _ h => h, fun ρ0 ρ w0 a w w00 H0 hG h0 hL hn hE hT hR hLs Q hQ => hQ ρ a w (Ext.refl _ _) (Nat.le_refl _) hT hR⟩
  | o :: l, hl, j, cs, hcls, Hs, Ls, tm, H, n, k, h => by
    have h : (lget cs 0 fun c => ldrop cs 1 fun cs => wantK ops o tm fun want => cond want
      (cond (Nat.beq c 0) (evOp P G ih o tm H n fun v H n => putK N o.dst v tm fun tm => evDr P G ih N ops n0 l cs Hs Ls tm H n k)
        (cond (Nat.beq c 1) (match o.op with
          | .load t x => opd x tm fun a => cond (addrOk n0 a) (evLoad P G t a H fun v => heapsK P G Hs t a v (putK N o.dst v tm fun tm => evDr P G ih N ops n0 l cs Hs ((t, a, v) :: Ls) tm H n k)) none
          | _ => none)
          (cond (Nat.beq c 2) (evOp P G ih o tm H n fun v H' n => readsK P G H' Ls (putK N o.dst v tm fun tm => evDr P G ih N ops n0 l cs (H :: Hs) Ls tm H' n k))
            (cond (Nat.beq c 3) (evOp P G ih o tm H n fun v H n => putK N o.dst v tm fun tm => evDrT P G ih N ops l cs tm H n k) none))))
      (putK N o.dst (.tup []) tm fun tm => evDr P G ih N ops n0 l cs Hs Ls tm H n k)) = some r := h
    obtain ⟨c, hc, h⟩ := lget0 h
    have h := ldrop1 h
    obtain ⟨b, h, hw⟩ := wantK_ok h
    have hl' : ∀ o ∈ l, o ∈ ops := fun o ho => hl o (List.mem_cons_of_mem _ ho)
    have hc0 := hcls 0 o c rfl hc
    rw [Nat.add_zero] at hc0
    cases b with
    | false =>
      simp only [cond_false] at h
      obtain ⟨tm1, h, hp⟩ := putK_ok h
      obtain ⟨tm', H', n', L, h, hLL, hHs, hrest⟩ := evDr_ok hop l hl' (j + 1) _ hcls.tail h
      refine ⟨tm', H', n', L, h, hLL, hHs, fun ρ0 ρ w0 a w w00 H0 hG h0 hL hn hE hT hR hLs Q hQ => ?_⟩
      unfold wpFx
      rw [if_neg (by rw [hw ρ n N a hT]; simp)]
      have := hp ρ n a hT (by simp [AV.lt, ltAll])
      simp only [conc, concs] at this
      exact hrest ρ0 ρ w0 _ w w00 H0 hG h0 hL hn hE this hR hLs Q hQ
    | true =>
      simp only [cond_true] at h
      cases e0 : Nat.beq c 0 with
      | true =>
        rw [e0, cond_true] at h
        have hcc := hc0.1 (beq_eq' e0)
        obtain ⟨v, h, hd⟩ := evPure_ok hcc.1 h
        obtain ⟨tm1, h, hp⟩ := putK_ok h
        obtain ⟨tm', H', n', L, h, hLL, hHs, hrest⟩ := evDr_ok hop l hl' (j + 1) _ hcls.tail h
        refine ⟨tm', H', n', L, h, hLL, hHs, fun ρ0 ρ w0 a w w00 H0 hG h0 hL hn hE hT hR hLs Q hQ => ?_⟩
        unfold wpFx
        rw [if_pos (hw ρ n N a hT), if_neg (by rw [hcc.2.1]; simp)]
        exact ⟨_, fun w' _ => hd.reads hT hR w', hrest ρ0 ρ w0 _ w w00 H0 hG h0 hL hn hE (hp ρ n a hT (hd ρ w0 N a w hT hR).1) hR hLs Q hQ⟩
      | false =>
      rw [e0, cond_false] at h
      cases e1 : Nat.beq c 1 with
      | true =>
        rw [e1, cond_true] at h
        have hcc := hc0.2.1 (beq_eq' e1)
        split at h
        · rename_i t x ho
          obtain ⟨av, h, hv⟩ := opd_ok h
          obtain ⟨had, h⟩ := cond_some h
          obtain ⟨v, h, hld⟩ := evLoad_ok h
          obtain ⟨h, hhp⟩ := heapsK_ok h
          obtain ⟨tm1, h, hp⟩ := putK_ok h
          obtain ⟨tm', H', n', L, h, hLL, hHs, hrest⟩ := evDr_ok hop l hl' (j + 1) _ hcls.tail h
          have hlt0 : av.lt n0 := by
            unfold addrOk at had
            split at had
            · simpa [AV.lt] using blt_lt had
            · simp [AV.lt]
            · cases had
          have hmem := hLL (t, av, v) (List.mem_cons_self ..)
          refine ⟨tm', H', n', L, h, fun x hx => hLL x (List.mem_cons_of_mem _ hx), fun H'' hH hx => hHs H'' hH fun x hx' => ?_, fun ρ0 ρ w0 a w w00 H0 hG h0 hL hn hE hT hR hLs Q hQ => ?_⟩
          · rcases List.mem_cons.1 hx' with rfl | hx'
            · rcases List.mem_cons.1 hH with rfl | hH
              · exact hld
              · exact hhp H'' hH
            · exact hx x hx'
          · have hvn : v.lt n0 := (hL _ hmem ρ0 n0 w0 w00 hG h0).2
            unfold wpFx
            rw [if_pos (hw ρ n N a hT), if_neg (by rw [hcc.1]; simp)]
            refine ⟨conc ρ v, fun w' hw' => ?_, hrest ρ0 ρ w0 _ w w00 H0 hG h0 hL hn hE (hp ρ n a hT (AV.lt_mono hn v hvn)) hR (fun x hx => ?_) Q hQ⟩
            · obtain ⟨ρ2, H2, n2, g1, g2, g3, g4⟩ := hw' hcc.2
              obtain ⟨q1, _⟩ := g4 _ hmem ρ2 n2 w0 w' hG g3
              have ea : conc ρ2 av = conc ρ av := by rw [conc_ext g1 av hlt0, conc_ext hE av hlt0]
              have ev : conc ρ2 v = conc ρ v := by rw [conc_ext g1 v hvn, conc_ext hE v hvn]
              have q1 : (Instr.loadAt t (conc ρ2 av)).run P w' = .ok (conc ρ2 v) w' := q1
              rw [ea, ev] at q1
              unfold OReads
              have : (execOp a.eval o).run P w' = .ok (.value (conc ρ v)) w' := by
                simp only [execOp, ho, (hv ρ n N a hT).1]
                exact run_v q1
              rw [this]
              exact ⟨rfl, rfl⟩
            · rcases List.mem_cons.1 hx with rfl | hx
              · exact hld
              · exact hLs x hx
        · cases h
      | false =>
      rw [e1, cond_false] at h
      cases e2 : Nat.beq c 2 with
      | true =>
        rw [e2, cond_true] at h
        have hcc := hc0.2.2.1 (beq_eq' e2)
        obtain ⟨v, H1, n1, h, hd⟩ := hop o (hl o (List.mem_cons_self ..)) h
        obtain ⟨h, hrd⟩ := readsK_ok h
        obtain ⟨tm1, h, hp⟩ := putK_ok h
        obtain ⟨tm', H', n', L, h, hLL, hHs, hrest⟩ := evDr_ok hop l hl' (j + 1) _ hcls.tail h
        refine ⟨tm', H', n', L, h, hLL, fun H'' hH hx => hHs H'' (List.mem_cons_of_mem _ hH) hx, fun ρ0 ρ w0 a w w00 H0 hG h0 hL hn hE hT hR hLs Q hQ => ?_⟩
        unfold wpFx
        rw [if_pos (hw ρ n N a hT), if_pos hcc]
        refine Oper.wp_mono (fun a' w' hq => ?_) (hd ρ w0 N a w hG hT hR)
        obtain ⟨ρ1, q1, q2, q3, rfl, q5⟩ := hq
        exact ⟨fun _ => ⟨ρ1, H1, n1, hE.trans hn q1, by omega, q5, hHs H1 (List.mem_cons_self ..) hrd⟩,
          hrest ρ0 ρ1 w0 _ w' w00 H0 hG h0 hL (by omega) (hE.trans hn q1) (hp ρ1 n1 a (hT.mono q1 q2) q3) q5 hrd Q (fun ρ' a' w' f1 f2 f3 f4 => hQ ρ' a' w' (q1.trans q2 f1) (by omega) f3 f4)⟩
      | false =>
        rw [e2, cond_false] at h
        obtain ⟨e3, h⟩ := cond_some h
        have hcc := hc0.2.2.2 (beq_eq' e3)
        obtain ⟨v, H1, n1, h, hd⟩ := hop o (hl o (List.mem_cons_self ..)) h
        obtain ⟨tm1, h, hp⟩ := putK_ok h
        obtain ⟨tm', H', n', h, hrest⟩ := evDrT_ok hop l hl' (j + 1) _ hcls.tail h
        refine ⟨tm', H', n', Ls, h, fun x hx => hx, fun _ _ h => h, fun ρ0 ρ w0 a w w00 H0 hG h0 hL hn hE hT hR hLs Q hQ => ?_⟩
        unfold wpFx
        rw [if_pos (hw ρ n N a hT), if_pos hcc.1]
        refine Oper.wp_mono (fun a' w' hq => ?_) (hd ρ w0 N a w hG hT hR)
        obtain ⟨ρ1, q1, q2, q3, rfl, q5⟩ := hq
        exact ⟨(fun hh => by rw [hcc.2] at hh; cases hh), hrest _ ρ1 w0 _ w' hG (hp ρ1 n1 a (hT.mono q1 q2) q3) q5 Q (fun ρ' a' w' f1 f2 f3 f4 => hQ ρ' a' w' (q1.trans q2 f1) (by omega) f3 f4)⟩
end
end Go.Proofs.YtnllmelmmcapcaaGreatDoor.Ev
namespace Go.Proofs.YtnllmelmmcapcaaGreatDoor.Ev
open Go Go.RowKit
set_option linter.unusedVariables false

section
variable {R : Type} {P : Program} {G : Gl}

theorem evDraw_ok (hm : P.follows .mixedOrders = true) (hN : NoCount P G) {ih : Ih R} (hih : IhOk P G ih) : IhOk P G (evDraw P G ih) := by
  intro N c tm H n k r h
  cases c with
  | region id ops draw =>
    cases draw with
    | false => cases h
    | true =>
      obtain ⟨l⟩ := ops
      obtain ⟨cs, hcs, h⟩ : ∃ cs, (drawCls P l.toArray fun cs => some cs) = some cs ∧ (evDr P G ih N l n l cs [] [] tm H n fun tm H n => k .normal tm H n) = some r := by
        have h : (match drawCls P l.toArray fun cs => some cs with
          | some cs => evDr P G ih N l n l cs [] [] tm H n fun tm H n => k .normal tm H n
          | none => none) = some r := h
        split at h
        · exact ⟨_, ‹_›, h⟩
        · cases h
      obtain ⟨cs', M, hcs', hlen, hsd, hls, hlex, hns, hall⟩ := drawCls_ok hcs
      cases hcs'
      have hcls : ClsOk P (fxOf cs M) l 0 cs := by
        intro i o c ho hc
        rw [Nat.zero_add]
        obtain ⟨_, h2⟩ := hall i o c (by simpa using ho) hc
        have heff : c ≠ 2 → c ≠ 3 → (fxOf cs M).eff i = false := fun n2 n3 => by
          cases e : (fxOf cs M).eff i with
          | false => rfl
          | true => rcases fxOf_eff.1 e with h | h <;> rw [hc] at h <;> cases h <;> contradiction
        refine ⟨fun e => ⟨?_, heff (by omega) (by omega), ?_⟩, fun e => ⟨heff (by omega) (by omega), ?_⟩, fun e => ?_, fun e => ⟨?_, ?_⟩⟩
        · omega
        · cases e' : (fxOf cs M).ls.contains i with
          | false => rfl
          | true => have := fxOf_mem.1 e'; rw [hc] at this; cases this; cases e
        · exact fxOf_mem.2 (by rw [hc, e])
        · exact fxOf_eff.2 (.inl (by rw [hc, e]))
        · exact fxOf_eff.2 (.inr (by rw [hc, e]))
        · cases e' : (fxOf cs M).es.contains i with
          | false => rfl
          | true => have := fxOf_mem.1 e'; rw [hc] at this; cases this; cases e
      obtain ⟨tm', H', n', L, h, _, hHs, hrest⟩ := evDr_ok (fun o _ {tm H n k r} h => evOp_ok (fun c ho {k r} h => evCallOp_ok hN hih ho h) h) l (fun o ho => ho) 0 cs hcls h
      have hread := hHs H (List.mem_cons_self ..) (fun x hx => by simp at hx)
      have hB := hlex.lexB l.length 0 (Array.replicate l.length false) (by simp) (by simp) (fun i hi => by
        have hi : i < l.length := by simpa using hi
        simp [hi])
      refine ⟨_, _, _, _, h, trivial, fun ρ w0 a w hG hT hR => wp_region_any hm ?_⟩
      have hcl : Closed (fxOf cs M) (Array.replicate l.length false) := fun j k hj _ => by rw [getD_replicate_false] at hj; cases hj
      have hC0 : InCls P G ρ n w0 L w.drew := ⟨ρ, H, n, Ext.refl _ _, Nat.le_refl _, hR.drew, hread⟩
      have h1 := wpAnyF_lex (C := InCls P G ρ n w0 L) (Q := fun a' w' => Left P w0 ρ n N .normal tm' H' n' .normal a' w') hsd hls hns l 0 (Array.replicate l.length false) a w.drew (by simp) (by simp)
        hcl (fun _ => hC0) hB (hrest ρ ρ w0 a w.drew w.drew H hG hR.drew hread (Nat.le_refl _) (Ext.refl _ _) hT hR.drew (fun x hx => by simp at hx) _ (fun ρ' a' w' e1 e2 e3 e4 => ⟨rfl, ρ', e1, e2, e3, e4⟩))
      have h2 := wpAny_of_F (Q' := Left P w0 ρ n N .normal tm' H' n') hsd hls (fun _ _ h => h) l.length (Array.replicate l.length false) a w.drew (by simp) hcl (fun _ => hC0) h1
      exact h2
  | _ => cases h
end
end Go.Proofs.YtnllmelmmcapcaaGreatDoor.Ev
