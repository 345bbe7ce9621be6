/- Regions that draw their order: the walk, whole. -/
import Derived.Test.YtnllmelmmcapcaaGreatDoorEvS
namespace Go.Proofs.YtnllmelmmcapcaaGreatDoor.Ev
open Go Go.RowKit
set_option linter.unusedVariables false

section
variable {R : Type} {P : Program} {G : Tr (List AV)} {r : R}

theorem evDr_ok {ih : Ih R} {N n0 : Nat} {ops : List Oper} {X : Fx}
    (hop : ∀ o ∈ ops, ∀ {tm : Tr AV} {H : Heap} {n : Nat} {k : AV → Heap → Nat → Option R} {r : R}, evOp P G ih o tm H n k = some r → ∃ v H' n', k v H' n' = some r ∧ OpDoes P G o tm H n v H' n') :
    ∀ (l : List Oper), (∀ o ∈ l, o ∈ ops) → ∀ (j : Nat) (cs : List Nat), ClsOk P X l j cs → ∀ {Hs : List Heap} {Ls : List Rd1} {tm : Tr AV} {H : Heap} {n : Nat} {k : Tr AV → Heap → Nat → Option R}, evDr P G ih N ops n0 l cs Hs Ls tm H n k = some r →
      ∃ tm' H' n' L, k tm' H' n' = some r ∧ (∀ x ∈ Ls, x ∈ L) ∧ (∀ H'' ∈ H :: Hs, (∀ x ∈ Ls, ReadsAt P G x H'') → ∀ x ∈ L, ReadsAt P G x H'') ∧
      ∀ ρ0 ρ w0 a w w00 H0, GlobOk G w0 → Rep ρ0 H0 n0 w0 w00 → (∀ x ∈ L, ReadsAt P G x H0) → n0 ≤ n → Ext n0 ρ0 ρ → RepT ρ n N tm a → Rep ρ H n w0 w → (∀ x ∈ Ls, ReadsAt P G x H) → ∀ Q : Act → World → Prop,
        (∀ ρ' a' w', Ext n ρ ρ' → n ≤ n' → RepT ρ' n' N tm' a' → Rep ρ' H' n' w0 w' → Q a' w') → wpFx P ops.toArray (InCls P G ρ0 n0 w0 L) X Q l j a w
  | [], _, j, cs, _, Hs, Ls, tm, H, n, k, h => ⟨tm, H, n, Ls, h, fun x hx => hx, fun _ _ h => h, fun ρ0 ρ w0 a w w00 H0 hG h0 hL hn hE hT hR hLs Q hQ => hQ ρ a w (Ext.refl _ _) (Nat.le_refl _) hT hR⟩
  | o :: l, hl, j, cs, hcls, Hs, Ls, tm, H, n, k, h => by
    have h : (lget cs 0 fun c => ldrop cs 1 fun cs => wantK ops o tm fun want => cond want
      (cond (Nat.beq c 0) (evOp P G ih o tm H n fun v H n => putK N o.dst v tm fun tm => evDr P G ih N ops n0 l cs Hs Ls tm H n k)
        (cond (Nat.beq c 1) (match o.op with
          | .load t x => opd x tm fun a => cond (addrOk n0 a) (evLoad P G t a H fun v => heapsK P G Hs t a v (putK N o.dst v tm fun tm => evDr P G ih N ops n0 l cs Hs ((t, a, v) :: Ls) tm H n k)) none
          | _ => none)
          (cond (Nat.beq c 2) (evOp P G ih o tm H n fun v H' n => readsK P G H' Ls (putK N o.dst v tm fun tm => evDr P G ih N ops n0 l cs (H :: Hs) Ls tm H' n k))
            (cond (Nat.beq c 3) (evOp P G ih o tm H n fun v H n => putK N o.dst v tm fun tm => evDrT P G ih N ops l cs tm H n k) none))))
      (putK N o.dst (.tup []) tm fun tm => evDr P G ih N ops n0 l cs Hs Ls tm H n k)) = some r := h
    obtain ⟨c, hc, h⟩ := lget0 h
    have h := ldrop1 h
    obtain ⟨b, h, hw⟩ := wantK_ok h
    have hl' : ∀ o ∈ l, o ∈ ops := fun o ho => hl o (List.mem_cons_of_mem _ ho)
    have hc0 := hcls 0 o c rfl hc
    rw [Nat.add_zero] at hc0
    cases b with
    | false =>
      simp only [cond_false] at h
      obtain ⟨tm1, h, hp⟩ := putK_ok h
      obtain ⟨tm', H', n', L, h, hLL, hHs, hrest⟩ := evDr_ok hop l hl' (j + 1) _ hcls.tail h
      refine ⟨tm', H', n', L, h, hLL, hHs, fun ρ0 ρ w0 a w w00 H0 hG h0 hL hn hE hT hR hLs Q hQ => ?_⟩
      unfold wpFx
      rw [if_neg (by rw [hw ρ n N a hT]; simp)]
      have := hp ρ n a hT (by simp [AV.lt, ltAll])
      simp only [conc, concs] at this
      exact hrest ρ0 ρ w0 _ w w00 H0 hG h0 hL hn hE this hR hLs Q hQ
    | true =>
      simp only [cond_true] at h
      cases e0 : Nat.beq c 0 with
      | true =>
        rw [e0, cond_true] at h
        have hcc := hc0.1 (beq_eq' e0)
        obtain ⟨v, h, hd⟩ := evPure_ok hcc.1 h
        obtain ⟨tm1, h, hp⟩ := putK_ok h
        obtain ⟨tm', H', n', L, h, hLL, hHs, hrest⟩ := evDr_ok hop l hl' (j + 1) _ hcls.tail h
        refine ⟨tm', H', n', L, h, hLL, hHs, fun ρ0 ρ w0 a w w00 H0 hG h0 hL hn hE hT hR hLs Q hQ => ?_⟩
        unfold wpFx
        rw [if_pos (hw ρ n N a hT), if_neg (by rw [hcc.2.1]; simp)]
        exact ⟨_, fun w' _ => hd.reads hT hR w', hrest ρ0 ρ w0 _ w w00 H0 hG h0 hL hn hE (hp ρ n a hT (hd ρ w0 N a w hT hR).1) hR hLs Q hQ⟩
      | false =>
      rw [e0, cond_false] at h
      cases e1 : Nat.beq c 1 with
      | true =>
        rw [e1, cond_true] at h
        have hcc := hc0.2.1 (beq_eq' e1)
        split at h
        · rename_i t x ho
          obtain ⟨av, h, hv⟩ := opd_ok h
          obtain ⟨had, h⟩ := cond_some h
          obtain ⟨v, h, hld⟩ := evLoad_ok h
          obtain ⟨h, hhp⟩ := heapsK_ok h
          obtain ⟨tm1, h, hp⟩ := putK_ok h
          obtain ⟨tm', H', n', L, h, hLL, hHs, hrest⟩ := evDr_ok hop l hl' (j + 1) _ hcls.tail h
          have hlt0 : av.lt n0 := by
            unfold addrOk at had
            split at had
            · simpa [AV.lt] using blt_lt had
            · simp [AV.lt]
            · cases had
          have hmem := hLL (t, av, v) (List.mem_cons_self ..)
          refine ⟨tm', H', n', L, h, fun x hx => hLL x (List.mem_cons_of_mem _ hx), fun H'' hH hx => hHs H'' hH fun x hx' => ?_, fun ρ0 ρ w0 a w w00 H0 hG h0 hL hn hE hT hR hLs Q hQ => ?_⟩
          · rcases List.mem_cons.1 hx' with rfl | hx'
            · rcases List.mem_cons.1 hH with rfl | hH
              · exact hld
              · exact hhp H'' hH
            · exact hx x hx'
          · have hvn : v.lt n0 := (hL _ hmem ρ0 n0 w0 w00 hG h0).2
            unfold wpFx
            rw [if_pos (hw ρ n N a hT), if_neg (by rw [hcc.1]; simp)]
            refine ⟨conc ρ v, fun w' hw' => ?_, hrest ρ0 ρ w0 _ w w00 H0 hG h0 hL hn hE (hp ρ n a hT (AV.lt_mono hn v hvn)) hR (fun x hx => ?_) Q hQ⟩
            · obtain ⟨ρ2, H2, n2, g1, g2, g3, g4⟩ := hw' hcc.2
              obtain ⟨q1, _⟩ := g4 _ hmem ρ2 n2 w0 w' hG g3
              have ea : conc ρ2 av = conc ρ av := by rw [conc_ext g1 av hlt0, conc_ext hE av hlt0]
              have ev : conc ρ2 v = conc ρ v := by rw [conc_ext g1 v hvn, conc_ext hE v hvn]
              have q1 : (Instr.loadAt t (conc ρ2 av)).run P w' = .ok (conc ρ2 v) w' := q1
              rw [ea, ev] at q1
              unfold OReads
              have : (execOp a.eval o).run P w' = .ok (.value (conc ρ v)) w' := by
                simp only [execOp, ho, (hv ρ n N a hT).1]
                exact run_v q1
              rw [this]
              exact ⟨rfl, rfl⟩
            · rcases List.mem_cons.1 hx with rfl | hx
              · exact hld
              · exact hLs x hx
        · cases h
      | false =>
      rw [e1, cond_false] at h
      cases e2 : Nat.beq c 2 with
      | true =>
        rw [e2, cond_true] at h
        have hcc := hc0.2.2.1 (beq_eq' e2)
        obtain ⟨v, H1, n1, h, hd⟩ := hop o (hl o (List.mem_cons_self ..)) h
        obtain ⟨h, hrd⟩ := readsK_ok h
        obtain ⟨tm1, h, hp⟩ := putK_ok h
        obtain ⟨tm', H', n', L, h, hLL, hHs, hrest⟩ := evDr_ok hop l hl' (j + 1) _ hcls.tail h
        refine ⟨tm', H', n', L, h, hLL, fun H'' hH hx => hHs H'' (List.mem_cons_of_mem _ hH) hx, fun ρ0 ρ w0 a w w00 H0 hG h0 hL hn hE hT hR hLs Q hQ => ?_⟩
        unfold wpFx
        rw [if_pos (hw ρ n N a hT), if_pos hcc]
        refine Oper.wp_mono (fun a' w' hq => ?_) (hd ρ w0 N a w hG hT hR)
        obtain ⟨ρ1, q1, q2, q3, rfl, q5⟩ := hq
        exact ⟨fun _ => ⟨ρ1, H1, n1, hE.trans hn q1, by omega, q5, hHs H1 (List.mem_cons_self ..) hrd⟩,
          hrest ρ0 ρ1 w0 _ w' w00 H0 hG h0 hL (by omega) (hE.trans hn q1) (hp ρ1 n1 a (hT.mono q1 q2) q3) q5 hrd Q (fun ρ' a' w' f1 f2 f3 f4 => hQ ρ' a' w' (q1.trans q2 f1) (by omega) f3 f4)⟩
      | false =>
        rw [e2, cond_false] at h
        obtain ⟨e3, h⟩ := cond_some h
        have hcc := hc0.2.2.2 (beq_eq' e3)
        obtain ⟨v, H1, n1, h, hd⟩ := hop o (hl o (List.mem_cons_self ..)) h
        obtain ⟨tm1, h, hp⟩ := putK_ok h
        obtain ⟨tm', H', n', h, hrest⟩ := evDrT_ok hop l hl' (j + 1) _ hcls.tail h
        refine ⟨tm', H', n', Ls, h, fun x hx => hx, fun _ _ h => h, fun ρ0 ρ w0 a w w00 H0 hG h0 hL hn hE hT hR hLs Q hQ => ?_⟩
        unfold wpFx
        rw [if_pos (hw ρ n N a hT), if_pos hcc.1]
        refine Oper.wp_mono (fun a' w' hq => ?_) (hd ρ w0 N a w hG hT hR)
        obtain ⟨ρ1, q1, q2, q3, rfl, q5⟩ := hq
        exact ⟨(fun hh => by rw [hcc.2] at hh; cases hh), hrest _ ρ1 w0 _ w' hG (hp ρ1 n1 a (hT.mono q1 q2) q3) q5 Q (fun ρ' a' w' f1 f2 f3 f4 => hQ ρ' a' w' (q1.trans q2 f1) (by omega) f3 f4)⟩
end
end Go.Proofs.YtnllmelmmcapcaaGreatDoor.Ev
