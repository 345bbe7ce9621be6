/- The walk of the law's play (written by gen_play.py). -/
import Derived.Test.YtnbhgfnjnccakaaPlayP
import Derived.Test.YtnbhgfnjnccakaaBase0
import Derived.Deep.DeepCutAuto
import Derived.Deep.CutBlock
import Derived.Deep.RegionWith
namespace Go.Proofs.Ytnbhgfnjnccakaa
open Go Go.RowKit
set_option linter.unusedVariables false

theorem among14c (k : Int) : among k 14 = 0 ∨ among k 14 = 1 ∨ among k 14 = 2 ∨ among k 14 = 3 ∨ among k 14 = 4 ∨ among k 14 = 5 ∨ among k 14 = 6 ∨ among k 14 = 7 ∨ among k 14 = 8 ∨ among k 14 = 9 ∨ among k 14 = 10 ∨ among k 14 = 11 ∨ among k 14 = 12 ∨ among k 14 = 13 := by have := among_range k 14 (by decide); omega

set_option maxHeartbeats 4000000 in
set_option maxRecDepth 100000 in
theorem play_ok {w0 w : World} {b c : Nat} {l : PLay} {L : XLay} {p : PortM} (T : Two w0 w b l p c L p) (hbx : ∀ x, x ∈ p.box → x.length ≤ 512) (ho : p.outs.length < 1900000000000) (dn kd en nn : Int) (bs : List UInt8) (hbs : bs.length ≤ 140737488355328) (qa : Option Addr) (ql qc : Nat) (d : DestM) :
    Calls Try.prog 32 #[.pointer (some ⟨b, 0, none⟩), .pointer (some ⟨c, 0, none⟩), actV dn kd en nn bs qa ql qc d] w (PlayPost w0 w b c l L p) := by
  by_cases hp12 : among dn 14 = 12
  · exact play_post T hbx ho dn kd en nn bs hbs qa ql qc d hp12
  unfold actV
  have kA : Upd [] w (w.alloc (.cells #[.int .i64 dn, .int .i64 kd, .int .i64 en, .int .i64 nn, .string (strB bs), .slice qa ql qc, .int .u8 d.a, .int .u8 d.b, .int .u8 d.c, .int .u8 d.d, .string d.name, .int .i64 d.port] 66)) := (Upd.refl _ _).alloc _
  have hA2 := blk_new' w 66 #[.int .i64 dn, .int .i64 kd, .int .i64 en, .int .i64 nn, .string (strB bs), .slice qa ql qc, .int .u8 d.a, .int .u8 d.b, .int .u8 d.c, .int .u8 d.d, .string d.name, .int .i64 d.port]
  have T2 := T.up kA
  have G2 : Went w l L _ l L := Went.refl.up kA
  have nA := T.P.fresh (q := w.heap.size) (Nat.le_refl _)
  have nA' := T.Y.fresh (q := w.heap.size) (Nat.le_refl _)
  have G0 := T.U
  go_enter Try.func32, Try.ntmps32
  go_wp2_with fail
  clear kA T
  generalize hA : w.heap.size = A at *
  generalize w.alloc (.cells #[.int .i64 dn, .int .i64 kd, .int .i64 en, .int .i64 nn, .string (strB bs), .slice qa ql qc, .int .u8 d.a, .int .u8 d.b, .int .u8 d.c, .int .u8 d.d, .string d.name, .int .i64 d.port] 66) = w6 at *
  have a0' := hA2.cell (i := 0) rfl
  have a1' := hA2.cell (i := 1) rfl
  have a2' := hA2.cell (i := 2) rfl
  have a3' := hA2.cell (i := 3) rfl
  have a4' := hA2.cell (i := 4) rfl
  have a5' := hA2.cell (i := 5) rfl
  have a6' := hA2.cell (i := 6) rfl
  have a7' := hA2.cell (i := 7) rfl
  have a8' := hA2.cell (i := 8) rfl
  have a9' := hA2.cell (i := 9) rfl
  have a10' := hA2.cell (i := 10) rfl
  have a11' := hA2.cell (i := 11) rfl
  refine (among_any dn 14 _ (by decide) (by decide)).mono ?_
  rintro e w' ⟨rfl, rfl⟩
  have hkd := among14c dn
  generalize among dn 14 = ad at *
  rcases hkd with rfl | rfl | rfl | rfl | rfl | rfl | rfl | rfl | rfl | rfl | rfl | rfl | rfl | rfl
  · as_aux_lemma =>
      obtain ⟨s1, s2, p', hEv⟩ := ev_any p kd en nn bs hbs qa ql qc
      have hk : Kept p p' := ⟨hEv.len, hEv.bx, by rw [hEv.outs]; omega⟩
      have hP := hEv.P _ _ _ _ T2.P
      go_wp2_with fail
      refine (hP).mono ?_
      rintro e w7 ⟨rfl, hp⟩
      obtain ⟨l7, T7, hu, hW⟩ := T2.port hp
      have hA7 := hA2.upd hu nA
      have G7 := G2.port hu hW
      clear hp hu hW
      clear a0' a1' a2' a3' a4' a5' a6' a7' a8' a9' a10' a11'
      clear hP T2 hA2 G2
      have a0' := hA7.cell (i := 0) rfl
      have a1' := hA7.cell (i := 1) rfl
      have a2' := hA7.cell (i := 2) rfl
      have a3' := hA7.cell (i := 3) rfl
      have a4' := hA7.cell (i := 4) rfl
      have a5' := hA7.cell (i := 5) rfl
      have a6' := hA7.cell (i := 6) rfl
      have a7' := hA7.cell (i := 7) rfl
      have a8' := hA7.cell (i := 8) rfl
      have a9' := hA7.cell (i := 9) rfl
      have a10' := hA7.cell (i := 10) rfl
      have a11' := hA7.cell (i := 11) rfl
      have hR := hEv.R _ _ _ _ T7.Y
      clear hEv
      go_wp2_with fail
      refine (hR).mono ?_
      rintro e w8 ⟨rfl, hp⟩
      obtain ⟨L8, T8, hu, hW⟩ := T7.ref hp
      have hA8 := hA7.upd hu nA'
      have G8 := G7.ref hu hW
      clear hp hu hW
      clear hR T7 hA7 G7
      clear a0' a1' a2' a3' a4' a5' a6' a7' a8' a9' a10' a11'
      go_wp2_with fail
      go_ret
      exact ⟨rfl, l7, L8, p', T8, hk, G8⟩
  · as_aux_lemma =>
      obtain ⟨s1, s2, p', hEv⟩ := ev_any p kd en nn bs hbs qa ql qc
      have hk : Kept p p' := ⟨hEv.len, hEv.bx, by rw [hEv.outs]; omega⟩
      have hP := hEv.P _ _ _ _ T2.P
      go_wp2_with fail
      refine (hP).mono ?_
      rintro e w7 ⟨rfl, hp⟩
      obtain ⟨l7, T7, hu, hW⟩ := T2.port hp
      have hA7 := hA2.upd hu nA
      have G7 := G2.port hu hW
      clear hp hu hW
      clear a0' a1' a2' a3' a4' a5' a6' a7' a8' a9' a10' a11'
      clear hP T2 hA2 G2
      have a0' := hA7.cell (i := 0) rfl
      have a1' := hA7.cell (i := 1) rfl
      have a2' := hA7.cell (i := 2) rfl
      have a3' := hA7.cell (i := 3) rfl
      have a4' := hA7.cell (i := 4) rfl
      have a5' := hA7.cell (i := 5) rfl
      have a6' := hA7.cell (i := 6) rfl
      have a7' := hA7.cell (i := 7) rfl
      have a8' := hA7.cell (i := 8) rfl
      have a9' := hA7.cell (i := 9) rfl
      have a10' := hA7.cell (i := 10) rfl
      have a11' := hA7.cell (i := 11) rfl
      have hR := hEv.R _ _ _ _ T7.Y
      clear hEv
      go_wp2_with fail
      refine (hR).mono ?_
      rintro e w8 ⟨rfl, hp⟩
      obtain ⟨L8, T8, hu, hW⟩ := T7.ref hp
      have hA8 := hA7.upd hu nA'
      have G8 := G7.ref hu hW
      clear hp hu hW
      clear hR T7 hA7 G7
      clear a0' a1' a2' a3' a4' a5' a6' a7' a8' a9' a10' a11'
      go_wp2_with fail
      go_ret
      exact ⟨rfl, l7, L8, p', T8, hk, G8⟩
  · as_aux_lemma =>
      obtain ⟨s1, s2, p', hEv⟩ := ev_any p kd en nn bs hbs qa ql qc
      have hk : Kept p p' := ⟨hEv.len, hEv.bx, by rw [hEv.outs]; omega⟩
      have hP := hEv.P _ _ _ _ T2.P
      go_wp2_with fail
      refine (hP).mono ?_
      rintro e w7 ⟨rfl, hp⟩
      obtain ⟨l7, T7, hu, hW⟩ := T2.port hp
      have hA7 := hA2.upd hu nA
      have G7 := G2.port hu hW
      clear hp hu hW
      clear a0' a1' a2' a3' a4' a5' a6' a7' a8' a9' a10' a11'
      clear hP T2 hA2 G2
      have a0' := hA7.cell (i := 0) rfl
      have a1' := hA7.cell (i := 1) rfl
      have a2' := hA7.cell (i := 2) rfl
      have a3' := hA7.cell (i := 3) rfl
      have a4' := hA7.cell (i := 4) rfl
      have a5' := hA7.cell (i := 5) rfl
      have a6' := hA7.cell (i := 6) rfl
      have a7' := hA7.cell (i := 7) rfl
      have a8' := hA7.cell (i := 8) rfl
      have a9' := hA7.cell (i := 9) rfl
      have a10' := hA7.cell (i := 10) rfl
      have a11' := hA7.cell (i := 11) rfl
      have hR := hEv.R _ _ _ _ T7.Y
      clear hEv
      go_wp2_with fail
      refine (hR).mono ?_
      rintro e w8 ⟨rfl, hp⟩
      obtain ⟨L8, T8, hu, hW⟩ := T7.ref hp
      have hA8 := hA7.upd hu nA'
      have G8 := G7.ref hu hW
      clear hp hu hW
      clear hR T7 hA7 G7
      clear a0' a1' a2' a3' a4' a5' a6' a7' a8' a9' a10' a11'
      go_wp2_with fail
      go_ret
      exact ⟨rfl, l7, L8, p', T8, hk, G8⟩
  · as_aux_lemma =>
      obtain ⟨s1, s2, p', hEv⟩ := ev_any p kd en nn bs hbs qa ql qc
      have hk : Kept p p' := ⟨hEv.len, hEv.bx, by rw [hEv.outs]; omega⟩
      have hP := hEv.P _ _ _ _ T2.P
      go_wp2_with fail
      refine (hP).mono ?_
      rintro e w7 ⟨rfl, hp⟩
      obtain ⟨l7, T7, hu, hW⟩ := T2.port hp
      have hA7 := hA2.upd hu nA
      have G7 := G2.port hu hW
      clear hp hu hW
      clear a0' a1' a2' a3' a4' a5' a6' a7' a8' a9' a10' a11'
      clear hP T2 hA2 G2
      have a0' := hA7.cell (i := 0) rfl
      have a1' := hA7.cell (i := 1) rfl
      have a2' := hA7.cell (i := 2) rfl
      have a3' := hA7.cell (i := 3) rfl
      have a4' := hA7.cell (i := 4) rfl
      have a5' := hA7.cell (i := 5) rfl
      have a6' := hA7.cell (i := 6) rfl
      have a7' := hA7.cell (i := 7) rfl
      have a8' := hA7.cell (i := 8) rfl
      have a9' := hA7.cell (i := 9) rfl
      have a10' := hA7.cell (i := 10) rfl
      have a11' := hA7.cell (i := 11) rfl
      have hR := hEv.R _ _ _ _ T7.Y
      clear hEv
      go_wp2_with fail
      refine (hR).mono ?_
      rintro e w8 ⟨rfl, hp⟩
      obtain ⟨L8, T8, hu, hW⟩ := T7.ref hp
      have hA8 := hA7.upd hu nA'
      have G8 := G7.ref hu hW
      clear hp hu hW
      clear hR T7 hA7 G7
      clear a0' a1' a2' a3' a4' a5' a6' a7' a8' a9' a10' a11'
      go_wp2_with fail
      go_ret
      exact ⟨rfl, l7, L8, p', T8, hk, G8⟩
  · as_aux_lemma =>
      have hk := kept_accepted (p := p)
      have hP := (pt_accept T2.P).mono (fun e w' h => And.intro h.1 h.2.post)
      generalize hpp : p.accepted = p' at *
      generalize hsa : p.acceptA = sa at *
      go_wp2_with fail
      refine (hP).mono ?_
      rintro e w7 ⟨rfl, hp⟩
      obtain ⟨l7, T7, hu, hW⟩ := T2.port hp
      have hA7 := hA2.upd hu nA
      have G7 := G2.port hu hW
      clear hp hu hW
      clear a0' a1' a2' a3' a4' a5' a6' a7' a8' a9' a10' a11'
      clear hP T2 hA2 G2
      have a0' := hA7.cell (i := 0) rfl
      have a1' := hA7.cell (i := 1) rfl
      have a2' := hA7.cell (i := 2) rfl
      have a3' := hA7.cell (i := 3) rfl
      have a4' := hA7.cell (i := 4) rfl
      have a5' := hA7.cell (i := 5) rfl
      have a6' := hA7.cell (i := 6) rfl
      have a7' := hA7.cell (i := 7) rfl
      have a8' := hA7.cell (i := 8) rfl
      have a9' := hA7.cell (i := 9) rfl
      have a10' := hA7.cell (i := 10) rfl
      have a11' := hA7.cell (i := 11) rfl
      have hR := rp_accept T7.Y
      rw [hpp, hsa] at hR
      clear hpp hsa
      obtain ⟨s1, s2⟩ := sa
      go_wp2_with fail
      refine (hR).mono ?_
      rintro e w8 ⟨rfl, hp⟩
      obtain ⟨L8, T8, hu, hW⟩ := T7.ref hp
      have hA8 := hA7.upd hu nA'
      have G8 := G7.ref hu hW
      clear hp hu hW
      clear hR T7 hA7 G7
      clear a0' a1' a2' a3' a4' a5' a6' a7' a8' a9' a10' a11'
      go_wp2_with fail
      go_ret
      exact ⟨rfl, l7, L8, p', T8, hk, G8⟩
  · as_aux_lemma =>
      have hd : Upd [] w6 w6.drew := (Upd.refl _ _).drew
      have T3 := T2.up hd
      have hA3 := hA2.upd hd (by simp)
      have G3 := G2.up hd
      obtain ⟨C, hC⟩ : ∃ C : World → Prop, C = fun w' => w'.cell? ⟨A, 3, none⟩ = some (.int .i64 nn) := ⟨_, rfl⟩
      have hCo : ∀ w', C w' → w'.cell? ⟨A, 3, none⟩ = some (.int .i64 nn) := fun w' h => by rw [hC] at h; exact h
      have hC0 : C w6.drew := by rw [hC]; exact hA3.cell (i := 3) rfl
      have cc0 : ∀ x : { w' // C w' }, x.1.cell? ⟨A, 3, none⟩ = some (.int .i64 nn) := fun y => hCo _ y.2
      haveI : Nonempty { w' // C w' } := ⟨⟨_, hC0⟩⟩
      clear a0' a1' a2' a3' a4' a5' a6' a7' a8' a9' a10' a11'
      go_wp2_with fail
      refine wp_region_fxl C [5, 11, 12] [] [4, 10] rfl (by kernel_rfl) hC0 (fun M => ?_)
      clear hd T2 hA2 G2 hC0
      generalize w6.drew = w3 at *
      have hk := kept_taken (p := p) en nn
      have hP := pt_take en nn T3.P
      generalize hpp : p.taken en nn = p' at *
      generalize hsa : p.takeB en nn = ys at *
      refine wpFx_pure rfl (fun K hK => ?_); go_simp; refine hK _ ?_; clear hK K
      refine wpFx_pure rfl (fun K hK => ?_); go_simp; refine hK _ ?_; clear hK K
      refine wpFx_pure rfl (fun K hK => ?_); go_simp; refine hK _ ?_; clear hK K
      refine wpFx_pure rfl (fun K hK => ?_); go_simp; refine hK _ ?_; clear hK K
      refine wpFx_load rfl rfl (fun K hK => ?_); go_simp; refine hK _ ?_; clear hK K
      refine wpFx_es rfl rfl (fun K hK => ?_); go_simp
      refine hP.mono ?_
      rintro e w7 ⟨v1, rfl, hv1, hp⟩
      obtain ⟨l7, T7, hu, hW⟩ := T3.port hp.post
      have hA7 := hA3.upd hu nA
      have G7 := G3.port hu hW
      refine hK _ _ (by rw [hC]; exact hA7.cell (i := 3) rfl) ?_
      clear hK K hp hu hW hP
      have hR := rp_take en nn T7.Y
      rw [hpp, hsa] at hR
      clear hpp hsa
      refine wpFx_pure rfl (fun K hK => ?_); go_simp; refine hK _ ?_; clear hK K
      refine wpFx_pure rfl (fun K hK => ?_); go_simp; refine hK _ ?_; clear hK K
      refine wpFx_pure rfl (fun K hK => ?_); go_simp; refine hK _ ?_; clear hK K
      refine wpFx_pure rfl (fun K hK => ?_); go_simp; refine hK _ ?_; clear hK K
      refine wpFx_load rfl rfl (fun K hK => ?_); go_simp; refine hK _ ?_; clear hK K
      refine wpFx_es rfl rfl (fun K hK => ?_); go_simp
      refine hR.mono ?_
      rintro e w8 ⟨v2, rfl, hv2, hp⟩
      obtain ⟨L8, T8, hu, hW⟩ := T7.ref hp
      have hA8 := hA7.upd hu nA'
      have G8 := G7.ref hu hW
      have hv1' := hv1.upd hu (fun q hq hq' => by have := (hv1.lt q hq).1; have := T3.Y.lt q hq'; omega)
      have hS := sameBytes_any _ _ _ _ w8 (Own.rd hv1') (Own.rd hv2)
      refine hK _ _ (by rw [hC]; exact hA8.cell (i := 3) rfl) ?_
      clear hK K hp hu hW hR
      simp only [beq_self_eq_true] at hS
      refine wpFx_es rfl rfl (fun K hK => ?_); go_simp
      refine hS.mono ?_
      rintro e w9 ⟨rfl, rfl⟩
      refine hK _ _ (by rw [hC]; exact hA8.cell (i := 3) rfl) ?_
      clear hK K hS
      refine wpFx_pure rfl (fun K hK => ?_); go_simp; refine hK _ ?_; clear hK K
      refine wpFx_nil ?_
      go_wp2_with fail
      go_ret
      exact ⟨rfl, l7, L8, p', T8, hk, G8⟩
  · as_aux_lemma =>
      have hP := pt_peek en nn T2.P
      generalize hsa : p.takeB en nn = ys at *
      go_wp2_with fail
      refine hP.mono ?_
      rintro e w7 ⟨v1, rfl, hv1, hu⟩
      have T7 := T2.up hu
      have hA7 := hA2.upd hu (by simp)
      have G7 := G2.up hu
      have hnl : ∀ q, v1.ownBlock = some q → q ∉ l.foot ∧ q ∉ L.foot ∧ q ≠ A := fun q hq => by
        have h1 := (hv1.lt q hq).1
        exact ⟨T2.P.fresh h1, T2.Y.fresh h1, by have := hA2.lt; omega⟩
      clear a0' a1' a2' a3' a4' a5' a6' a7' a8' a9' a10' a11'
      have hAl := hA2.lt
      clear hu hP T2 hA2 G2
      have a0' := hA7.cell (i := 0) rfl
      have a1' := hA7.cell (i := 1) rfl
      have a2' := hA7.cell (i := 2) rfl
      have a3' := hA7.cell (i := 3) rfl
      have a4' := hA7.cell (i := 4) rfl
      have a5' := hA7.cell (i := 5) rfl
      have a6' := hA7.cell (i := 6) rfl
      have a7' := hA7.cell (i := 7) rfl
      have a8' := hA7.cell (i := 8) rfl
      have a9' := hA7.cell (i := 9) rfl
      have a10' := hA7.cell (i := 10) rfl
      have a11' := hA7.cell (i := 11) rfl
      have hR := rp_peek en nn T7.Y
      rw [hsa] at hR
      clear hsa
      go_wp2_with fail
      refine hR.mono ?_
      rintro e w8 ⟨v2, rfl, hv2, hu⟩
      have T8 := T7.up hu
      have G8 := G7.up hu
      have hv1' := hv1.upd hu (by simp)
      have hS := sameBytes_any _ _ _ _ w8 (Own.rd hv1') (Own.rd hv2)
      clear a0' a1' a2' a3' a4' a5' a6' a7' a8' a9' a10' a11'
      clear hu hR T7 hA7 G7 hv1 hv2 nA nA' ho hbx
      simp only [beq_self_eq_true] at hS
      go_wp2_with fail
      refine hS.mono ?_
      rintro e w' ⟨rfl, rfl⟩
      clear hS
      obtain ⟨ga, gc, rfl⟩ := hv1'.shape
      have hst : ∃ xs : List Value, Own w8 w6.heap.size 5 1 (.slice ga ys.length gc) ys.length xs ∧ (∀ u ∈ xs, ∃ m : Int, u = .int .u8 m) ∧ Upd (Value.slice ga ys.length gc).ownBlock.toList w8 w8 :=
        ⟨_, hv1', fun u hu => by obtain ⟨cb, _, rfl⟩ := List.mem_map.1 hu; exact ⟨_, rfl⟩, Upd.refl _ _⟩
      clear hv1'
      go_wp2_with fail
      go_loopw [18] (fun iv wr => ∃ k : Nat, k ≤ ys.length ∧ iv = .int .i64 k ∧ ∃ xs : List Value, Own wr w6.heap.size 5 1 (.slice ga ys.length gc) ys.length xs ∧ (∀ u ∈ xs, ∃ m : Int, u = .int .u8 m) ∧ Upd (Value.slice ga ys.length gc).ownBlock.toList w8 wr) (fun iv _ => ys.length - (intOf iv).toNat)
      case atStart => exact ⟨0, Nat.zero_le _, rfl, hst⟩
      case round =>
        clear hst
        obtain ⟨k, hk, rfl, xs, hO, hx, hU⟩ := hrel
        by_cases hlt : k < ys.length
        · obtain ⟨g, off, cap', pre, rst, hv, hgb, _, _, _, hnc, hcm⟩ := hO.blk (by intro h; injection h with _ h; omega)
          have hlx := hO.1
          cases hv
          have hxk : k < xs.length := by omega
          obtain ⟨m, hm⟩ := hx xs[k] (List.getElem_mem _)
          have hcell := hO.cell rfl (j := k) (u := .int .u8 m) (by rw [List.getElem?_eq_getElem hxk, hm])
          have hfz := hO.frozen (off + k)
          have eadd : (⟨g, off, none⟩ : Addr).add k = ⟨g, off + k, none⟩ := addr_add _ _ _
          have hO2 := hO.set k (.int .u8 (IntKind.u8.wrap (m + 1))) hxk
          have hx2 : ∀ u ∈ xs.set k (.int .u8 (IntKind.u8.wrap (m + 1))), ∃ m : Int, u = .int .u8 m := fun u hu => by
            rcases List.mem_or_eq_of_mem_set hu with h' | rfl
            · exact hx u h'
            · exact ⟨_, rfl⟩
          have hU2 := hU.setCell (a := ⟨g, off + k, none⟩) (Or.inl (by simp [Value.ownBlock])) (.int .u8 (IntKind.u8.wrap (m + 1)))
          have hm63 : ys.length ≤ 9223372036854775807 := by unfold maxLen at hcm; omega
          clear hO hx hU hm hnc hcm
          go_wp2_with fail
          go_roundw
          case rel => exact ⟨k + 1, hlt, by go_num, _, hO2, hx2, hU2⟩
          case measure => simp [intOf]; omega
        · obtain rfl : k = ys.length := by omega
          have T9 := T8.side hU (fun q hq => by have h' := hnl q (mem_ownP hq); exact ⟨h'.1, h'.2.1, by have := (hO.lt q (mem_ownP hq)).1; have := G0.size; omega⟩)
          have G9 := G8.side hU (fun q hq => by have := (hO.lt q (mem_ownP hq)).1; omega)
          go_wp2_with fail
          go_ret
          exact ⟨rfl, l, L, p, T9, kept_refl, G9⟩
  · as_aux_lemma =>
      obtain ⟨cv, w7, hcv, hrd, hku⟩ := conv_bytes w6 bs hbs
      have T7 := T2.up hku
      have hA7 := hA2.upd hku (by simp)
      have G7 := G2.up hku
      have fl := T2.P.fresh (q := w6.heap.size) (Nat.le_refl _)
      have fL := T2.Y.fresh (q := w6.heap.size) (Nat.le_refl _)
      have hk := kept_sent (p := p) en bs
      have ho' := ho
      have hP := pt_send en T7.P hrd hbs (fun q hq => by cases hq; exact fl) ho
      generalize hpp : p.sent en bs = p' at *
      generalize hsa : p.sendN en bs = sa at *
      clear T2 hA2 G2
      have a3' := hA7.cell (i := 3) rfl
      go_wp2_with fail
      refine (hP).mono ?_
      rintro e w8 ⟨rfl, hp⟩
      obtain ⟨l8, T8, hu, hW⟩ := T7.port hp
      have hA8 := hA7.upd hu nA
      have G8 := G7.port hu hW
      have hrd8 := hrd.upd hu (fun q hq => by cases hq; exact fl)
      clear hp hu hW
      clear a0' a1' a2' a3' a4' a5' a6' a7' a8' a9' a10' a11'
      clear hP hcv T7 hA7 G7 hrd fl
      have a0' := hA8.cell (i := 0) rfl
      have a1' := hA8.cell (i := 1) rfl
      have a2' := hA8.cell (i := 2) rfl
      have a3' := hA8.cell (i := 3) rfl
      have a4' := hA8.cell (i := 4) rfl
      have a5' := hA8.cell (i := 5) rfl
      have a6' := hA8.cell (i := 6) rfl
      have a7' := hA8.cell (i := 7) rfl
      have a8' := hA8.cell (i := 8) rfl
      have a9' := hA8.cell (i := 9) rfl
      have a10' := hA8.cell (i := 10) rfl
      have a11' := hA8.cell (i := 11) rfl
      obtain ⟨cv2, w9, hcv2, hrd2, hku2⟩ := conv_bytes w8 bs hbs
      have T9 := T8.up hku2
      have hA9 := hA8.upd hku2 (by simp)
      have G9 := G8.up hku2
      have hrd9 := hrd8.upd hku2 (by simp)
      have fL2 := T8.Y.fresh (q := w8.heap.size) (Nat.le_refl _)
      have hR := rp_send en T9.Y hrd2 (fun q hq => by cases hq; exact fL2) ho'
      rw [hpp, hsa] at hR
      clear hpp hsa
      go_wp2_with fail
      refine (hR).mono ?_
      rintro e w10 ⟨rfl, hp⟩
      obtain ⟨L10, T10, hu, hW⟩ := T9.ref hp
      have hA10 := hA9.upd hu nA'
      have G10 := G9.ref hu hW
      have hrd10 := hrd9.upd hu (fun q hq => by cases hq; exact fL)
      clear hp hu hW
      clear a0' a1' a2' a3' a4' a5' a6' a7' a8' a9' a10' a11'
      clear hR hcv2 T8 hA8 G8 T9 hA9 G9 hrd8 hrd9 fL fL2
      have a0' := hA10.cell (i := 0) rfl
      have a1' := hA10.cell (i := 1) rfl
      have a2' := hA10.cell (i := 2) rfl
      have a3' := hA10.cell (i := 3) rfl
      have a4' := hA10.cell (i := 4) rfl
      have a5' := hA10.cell (i := 5) rfl
      have a6' := hA10.cell (i := 6) rfl
      have a7' := hA10.cell (i := 7) rfl
      have a8' := hA10.cell (i := 8) rfl
      have a9' := hA10.cell (i := 9) rfl
      have a10' := hA10.cell (i := 10) rfl
      have a11' := hA10.cell (i := 11) rfl
      have hs := run_string_of (P := Try.prog) hrd10 35 5 9 Try.underlying35 Try.underlying5 Try.underlying9
      go_wp2_with fail
      go_ret
      exact ⟨rfl, l8, L10, p', T10, hk, G10⟩
  · as_aux_lemma =>
      have hk := kept_fined (p := p) en
      have ho' := ho
      have hP := pt_fin en T2.P ho
      generalize hpp : p.fined en = p' at *
      generalize hsa : p.finE en = sa at *
      go_wp2_with fail
      refine (hP).mono ?_
      rintro e w7 ⟨rfl, hp⟩
      obtain ⟨l7, T7, hu, hW⟩ := T2.port hp
      have hA7 := hA2.upd hu nA
      have G7 := G2.port hu hW
      clear hp hu hW
      clear a0' a1' a2' a3' a4' a5' a6' a7' a8' a9' a10' a11'
      clear hP T2 hA2 G2
      have a0' := hA7.cell (i := 0) rfl
      have a1' := hA7.cell (i := 1) rfl
      have a2' := hA7.cell (i := 2) rfl
      have a3' := hA7.cell (i := 3) rfl
      have a4' := hA7.cell (i := 4) rfl
      have a5' := hA7.cell (i := 5) rfl
      have a6' := hA7.cell (i := 6) rfl
      have a7' := hA7.cell (i := 7) rfl
      have a8' := hA7.cell (i := 8) rfl
      have a9' := hA7.cell (i := 9) rfl
      have a10' := hA7.cell (i := 10) rfl
      have a11' := hA7.cell (i := 11) rfl
      have hR := rp_fin en T7.Y ho'
      rw [hpp, hsa] at hR
      clear hpp hsa
      go_wp2_with fail
      refine (hR).mono ?_
      rintro e w8 ⟨rfl, hp⟩
      obtain ⟨L8, T8, hu, hW⟩ := T7.ref hp
      have hA8 := hA7.upd hu nA'
      have G8 := G7.ref hu hW
      clear hp hu hW
      clear hR T7 hA7 G7
      clear a0' a1' a2' a3' a4' a5' a6' a7' a8' a9' a10' a11'
      go_wp2_with fail
      go_ret
      exact ⟨rfl, l7, L8, p', T8, hk, G8⟩
  · as_aux_lemma =>
      have hk := kept_closed (p := p) en
      have ho' := ho
      have hP := pt_close en T2.P ho
      generalize hpp : p.closed en = p' at *
      generalize hsa : p.closeE en = sa at *
      go_wp2_with fail
      refine (hP).mono ?_
      rintro e w7 ⟨rfl, hp⟩
      obtain ⟨l7, T7, hu, hW⟩ := T2.port hp
      have hA7 := hA2.upd hu nA
      have G7 := G2.port hu hW
      clear hp hu hW
      clear a0' a1' a2' a3' a4' a5' a6' a7' a8' a9' a10' a11'
      clear hP T2 hA2 G2
      have a0' := hA7.cell (i := 0) rfl
      have a1' := hA7.cell (i := 1) rfl
      have a2' := hA7.cell (i := 2) rfl
      have a3' := hA7.cell (i := 3) rfl
      have a4' := hA7.cell (i := 4) rfl
      have a5' := hA7.cell (i := 5) rfl
      have a6' := hA7.cell (i := 6) rfl
      have a7' := hA7.cell (i := 7) rfl
      have a8' := hA7.cell (i := 8) rfl
      have a9' := hA7.cell (i := 9) rfl
      have a10' := hA7.cell (i := 10) rfl
      have a11' := hA7.cell (i := 11) rfl
      have hR := rp_close en T7.Y ho'
      rw [hpp, hsa] at hR
      clear hpp hsa
      go_wp2_with fail
      refine (hR).mono ?_
      rintro e w8 ⟨rfl, hp⟩
      obtain ⟨L8, T8, hu, hW⟩ := T7.ref hp
      have hA8 := hA7.upd hu nA'
      have G8 := G7.ref hu hW
      clear hp hu hW
      clear hR T7 hA7 G7
      clear a0' a1' a2' a3' a4' a5' a6' a7' a8' a9' a10' a11'
      go_wp2_with fail
      go_ret
      exact ⟨rfl, l7, L8, p', T8, hk, G8⟩
  · as_aux_lemma =>
      obtain ⟨s1, s2, p', hD⟩ := dial_any p d T2.P.cl ho
      have hk := hD.kept
      have hP := hD.P _ _ _ _ T2.P
      go_wp2_with fail
      refine (hP).mono ?_
      rintro e w7 ⟨rfl, hp⟩
      obtain ⟨l7, T7, hu, hW⟩ := T2.port hp
      have hA7 := hA2.upd hu nA
      have G7 := G2.port hu hW
      clear hp hu hW
      clear a0' a1' a2' a3' a4' a5' a6' a7' a8' a9' a10' a11'
      clear hP T2 hA2 G2
      have a0' := hA7.cell (i := 0) rfl
      have a1' := hA7.cell (i := 1) rfl
      have a2' := hA7.cell (i := 2) rfl
      have a3' := hA7.cell (i := 3) rfl
      have a4' := hA7.cell (i := 4) rfl
      have a5' := hA7.cell (i := 5) rfl
      have a6' := hA7.cell (i := 6) rfl
      have a7' := hA7.cell (i := 7) rfl
      have a8' := hA7.cell (i := 8) rfl
      have a9' := hA7.cell (i := 9) rfl
      have a10' := hA7.cell (i := 10) rfl
      have a11' := hA7.cell (i := 11) rfl
      have hR := hD.R _ _ _ _ T7.Y
      clear hD
      go_wp2_with fail
      refine (hR).mono ?_
      rintro e w8 ⟨rfl, hp⟩
      obtain ⟨L8, T8, hu, hW⟩ := T7.ref hp
      have hA8 := hA7.upd hu nA'
      have G8 := G7.ref hu hW
      clear hp hu hW
      clear hR T7 hA7 G7
      clear a0' a1' a2' a3' a4' a5' a6' a7' a8' a9' a10' a11'
      go_wp2_with fail
      go_ret
      exact ⟨rfl, l7, L8, p', T8, hk, G8⟩
  · as_aux_lemma =>
      rcases hpb : p.box with _ | ⟨bx, rest⟩
      · have hP := pt_gram_none T2.P hpb
        have hR := rp_gram_none T2.Y hpb
        have hS := sameBytes_any (.slice none 0 0) (.slice none 0 0) [] [] w6 ⟨none, 0, rfl, Nat.le_refl _, by decide, fun _ => rfl, fun ad had => by cases had⟩ ⟨none, 0, rfl, Nat.le_refl _, by decide, fun _ => rfl, fun ad had => by cases had⟩
        clear a0' a1' a2' a3' a4' a5' a6' a7' a8' a9' a10' a11'
        go_wp2_with fail
        refine hP.mono ?_
        rintro e w' ⟨rfl, rfl⟩
        go_wp2_with fail
        refine hR.mono ?_
        rintro e w' ⟨rfl, rfl⟩
        go_wp2_with fail
        refine hS.mono ?_
        rintro e w' ⟨rfl, rfl⟩
        go_wp2_with fail
        go_ret
        exact ⟨rfl, l, L, p, T2, kept_refl, G2⟩
      · have hk := kept_gram hpb
        have hP := pt_gram_some T2.P hpb (hbx bx (by rw [hpb]; exact List.mem_cons_self ..))
        clear a0' a1' a2' a3' a4' a5' a6' a7' a8' a9' a10' a11'
        go_wp2_with fail
        refine hP.mono ?_
        rintro e w7 ⟨v1, rfl, hv1, hp⟩
        obtain ⟨l7, T7, hu, hW⟩ := T2.port hp
        have G7 := G2.port hu hW
        have hR := rp_gram_some T7.Y hpb
        have hvL : ∀ q, v1.ownBlock = some q → q ∉ L.foot := fun q hq hq' => by have := (hv1.lt q hq).1; have := T2.Y.lt q hq'; omega
        clear hp hu hW hP T2 G2
        go_wp2_with fail
        refine hR.mono ?_
        rintro e w8 ⟨v2, rfl, hv2, hp⟩
        obtain ⟨L8, T8, hu, hW⟩ := T7.ref hp
        have G8 := G7.ref hu hW
        have hv1' := hv1.upd hu hvL
        have hS := sameBytes_any _ _ _ _ w8 (Own.rd hv1') hv2
        simp only [beq_self_eq_true] at hS
        clear hp hu hW hR T7 G7
        go_wp2_with fail
        refine hS.mono ?_
        rintro e w' ⟨rfl, rfl⟩
        go_wp2_with fail
        go_ret
        exact ⟨rfl, l7, L8, _, T8, hk, G8⟩
  · exact absurd rfl hp12
  · as_aux_lemma =>
      have hO1 := pt_outs T2.P
      clear a0' a1' a2' a3' a4' a5' a6' a7' a8' a9' a10' a11'
      go_wp2_with fail
      refine hO1.mono ?_
      rintro e w7 ⟨ov, rfl, hov, hot, hp⟩
      obtain ⟨l7, T7, hu, hW⟩ := T2.port hp
      have G7 := G2.port hu hW
      have hdis : ∀ q, ov.ownBlock = some q → q ∉ L.foot := fun q hq => T2.d q (hot q hq).2.2
      have hO2 := rp_outs T7.Y
      clear hO1 hp hu hW T2 G2 hA2
      go_wp2_with fail
      refine hO2.mono ?_
      rintro e w8 ⟨ov2, rfl, hov2, hot2, hp⟩
      obtain ⟨L8, T8, hu, hW⟩ := T7.ref hp
      have G8 := G7.ref hu hW
      have hov' := hov.upd hu hdis
      have hSo := sameOuts_ok (os := p.outs) hov' hov2 rfl
      obtain ⟨ao, co, rfl⟩ := hov.shape
      obtain ⟨ao2, co2, rfl⟩ := hov2.shape
      clear hO2 hp hu hW T7 G7
      go_wp2_with fail
      refine hSo.mono ?_
      rintro e w9 ⟨rfl, k9⟩
      have T9 : Two w0 w9 b l7 { p with outs := [] } c L8 { p with outs := [] } := T8.up k9
      have G9 := G8.up k9
      go_wp2_with fail
      go_ret
      exact ⟨rfl, l7, L8, _, T9, kept_outs, G9⟩

end Go.Proofs.Ytnbhgfnjnccakaa
