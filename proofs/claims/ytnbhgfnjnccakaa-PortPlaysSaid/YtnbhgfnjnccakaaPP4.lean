/- The walk of the port's Clone. -/
import Derived.Test.YtnbhgfnjnccakaaPP3
namespace Go.Proofs.Ytnbhgfnjnccakaa
open Go Go.RowKit
set_option linter.unusedVariables false

section
variable {w w1 : World} {base b : Nat} {l : PLay} {p : PortM}

set_option maxHeartbeats 2000000 in
set_option maxRecDepth 100000 in
theorem pt_clone (h : PortAt w base b l p) (hbox : ∀ x, x ∈ p.box → x.length ≤ 512) (hol : p.outs.length ≤ 1900000000000) : Calls Try.prog 33 #[.pointer (some ⟨b, 0, none⟩)] w (PClonePost w base l p) := by
  have his := pt_is h
  have hlt := h.blk.lt
  obtain ⟨xs, hE, hL⟩ := h.ends
  obtain ⟨ys, hbo, hel⟩ := h.box
  have hou := h.outs
  have hn := h.small
  have hbx := h.bx
  have hxone := hL.one
  have hyone : ∀ u ∈ ys, u.oneCell' = true := fun u hu => by
    obtain ⟨k, hk, rfl⟩ := List.getElem_of_mem hu
    have hyl := hbo.len
    have hkb : k < p.box.length := by omega
    obtain ⟨v, k1, ⟨ao, cap, rfl, _⟩, _⟩ := hel k p.box[k] (List.getElem?_eq_getElem hkb) (hbox _ (List.getElem_mem _))
    rw [List.getElem?_eq_getElem hk] at k1
    rw [Option.some.inj k1]
    rfl
  have hoone : ∀ u ∈ outsC p.outs, u.oneCell' = true := fun u hu => by
    obtain ⟨o, _, ho⟩ := List.mem_flatMap.1 hu
    exact outC_one o u ho
  obtain ⟨ao, co, hvl⟩ := h.vlShape
  obtain ⟨bo, bc, hvb⟩ := hbo.shape
  obtain ⟨oo, oc, hvo⟩ := hou.shape
  have h0 := h.blk.cell (i := 0) rfl
  have h1 := h.blk.cell (i := 1) rfl
  have h2 := h.blk.cell (i := 2) rfl
  have h3 := h.blk.cell (i := 3) rfl
  have h4 := h.blk.cell (i := 4) rfl
  have h1' : ∀ o1 o2, ((w.alloc o1).alloc o2).cell? ⟨b, 1, none⟩ = some l.vl := fun o1 o2 => ((h.blk.alloc o1).alloc o2).cell rfl
  rw [hvl] at h1 h1' hE
  rw [hvb] at h2 hbo
  rw [hvo] at h3 hou
  have hB : base ≤ w.heap.size := by have := h.tb.1; omega
  obtain ⟨n, hnn⟩ : ∃ n, n = p.ends.length := ⟨_, rfl⟩
  rw [← hnn] at h1 h1' hE hn
  have Hn := Lib.hid hnn
  clear hnn
  go_enter Try.func33, Try.ntmps33
  go_wp2_with (first
    | (go_at_call 55; refine his.mono ?_; rintro e w' ⟨rfl, rfl⟩)
    | (with_reducible refine wpList_append_gen rfl (.tmp 11) (.tmp 15) 98 98 rfl 107 (.agg #[.pointer none, .int .i64 0, .int .i64 0, .bool false, .bool false, .bool false]) 6 32 Try.underlying98 Try.infoEnd rfl w.heap.size ?a1 _ 0 [] rfl ?a2 _ n xs rfl ?a3 ?a4 ?a5 ?a6))
  case a1 => simp; omega
  case a2 => exact ⟨rfl, Or.inr ⟨w.heap.size + 1, 0, 0, [], [], rfl, by omega, by simpa using blk_new (w.alloc _) 107 [], rfl, by simp, Nat.le_refl _, by decide⟩⟩
  case a3 => exact OwnE.src (Or.inl ((hE.upd ((Upd.refl [] w).alloc _) (by simp)).upd ((Upd.refl [] _).alloc _) (by simp))) Try.underlying98 hxone
  case a4 => unfold maxLen; omega
  case a5 => omega
  case a6 =>
    intro v' w1 hown hU hblk hnil hoff
    obtain ⟨gl, off, cp, pre, rst, rfl, hgb, hGB, hpre, hrst, hnc, hcm⟩ := hown.blk hnil
    obtain rfl : off = 0 := by simpa [offOf] using hoff
    clear hoff hnil hpre hGB hrst hnc hcm
    have hg1 : gl ≠ w.heap.size := by
      have := hblk gl rfl
      simp [Value.ownBlock] at this
      omega
    try simp only [Nat.zero_add, List.nil_append] at hown
    have hU0 : Upd [] w w1 := (((Upd.refl [] w).alloc _).alloc _).trans (fun k hk => Or.inr (by simp [Value.ownBlock] at hk; omega)) hU
    have hC := blk_new' w 100 #[.int .i64 p.clients, .slice ao n co, .slice bo p.box.length bc, .slice oo p.outs.length oc, .bool true]
    have hC1 := (hC.alloc (.cells #[] 107)).upd hU (by simp [Value.ownBlock])
    clear hC hU
    have hC2 := hC1.set 1 (.slice (some ⟨gl, 0, none⟩) n cp)
    have hsc : Upd [w.heap.size] w1 (w1.setCell ⟨w.heap.size, 1, none⟩ (.slice (some ⟨gl, 0, none⟩) n cp)) := (Upd.refl _ _).setCell (a := ⟨w.heap.size, 1, none⟩) (Or.inl (by simp)) _
    have hO2 := hown.upd hsc (fun q hq => by cases hq; simpa using hg1)
    have hU2 : Upd [] w (w1.setCell ⟨w.heap.size, 1, none⟩ (.slice (some ⟨gl, 0, none⟩) n cp)) := hU0.setCell (Or.inr (Nat.le_refl _)) _
    have hst : PClo (w1.setCell ⟨w.heap.size, 1, none⟩ (.slice (some ⟨gl, 0, none⟩) n cp)) w.heap.size w.heap.size gl cp n 0 p.clients p.size (.slice bo p.box.length bc) (.slice oo p.outs.length oc) p.ends l.rb (fun _ => 0) (fun _ => 0) (fun q => if q = gl then 1 else 0) [w.heap.size, gl] :=
      { blk := hC2.eq rfl, ends := ⟨xs, hO2, hL.1, fun i e hi j v hv => hL.2 i e hi j v (by simpa using hv)⟩, rings := fun i e hi => absurd hi (Nat.not_lt_zero _), tb := ⟨Nat.le_refl _, if_neg (fun e => hg1 e.symm), by simp⟩, tl := ⟨hgb, if_pos rfl, by simp⟩, tr := fun i hi => absurd hi (Nat.not_lt_zero _)
        lt := fun q hq => by
          simp at hq
          rcases hq with rfl | rfl
          · exact hC2.lt
          · exact (hO2.lt q rfl).2
        ge := fun q hq => by
          simp at hq
          rcases hq with rfl | rfl
          · exact Nat.le_refl _
          · exact hgb }
    have k2 := hC1.cell (i := 1) rfl
    have f2 := hC1.frozen 1
    have k3 := hC2.cell (i := 1) rfl
    clear hC1 hC2 hsc hO2 hU0 hown h0 h1 h1' h2 h3 h4 his hblk hg1 hxone
    go_wp2_with fail
    generalize w1.setCell ⟨w.heap.size, 1, none⟩ (.slice (some ⟨gl, 0, none⟩) n cp) = w2 at *
    clear k2 f2 k3
    go_loopw [21] (fun i wr => ∃ k : Nat, k ≤ n ∧ i = .int .i64 k ∧ (∃ rb g tag foot, PClo wr w.heap.size w.heap.size gl cp n k p.clients p.size (.slice bo p.box.length bc) (.slice oo p.outs.length oc) p.ends l.rb rb g tag foot) ∧ Upd [] w wr) (fun i _ => n - (intOf i).toNat)
    case atStart => exact ⟨0, Nat.zero_le _, rfl, ⟨_, _, _, _, hst⟩, hU2⟩
    case round =>
      clear hst hU2
      obtain ⟨k, hk, rfl, ⟨rb, g, tag, foot, hP⟩, hU⟩ := hrel
      by_cases hkn : k < n
      · have hkl : k < p.ends.length := by rw [← Hn.out]; exact hkn
        have hke : p.ends[k]? = some p.ends[k] := List.getElem?_eq_getElem hkl
        have hUd := hU.drew
        have hPd := hP.upd ((Upd.refl [] wr).drew)
        have hRo := (h.rings k _ hke).upd hUd (by simp) (by simp)
        obtain ⟨xs1, e1, e2⟩ := hPd.ends
        have b1 := hPd.blk.cell (i := 1) rfl
        have hval := e2.2 k _ hke 0 (.pointer (some ⟨l.rb k, 0, none⟩)) (by simp [endC])
        rw [Nat.add_zero] at hval
        have cc := e1.cell rfl hval
        rw [Nat.zero_add] at cc
        have eadd : (⟨gl, 0, none⟩ : Addr).add (k * 6) = ⟨gl, k * 6, none⟩ := by rw [addr_add, Nat.zero_add]
        obtain ⟨C, hC⟩ : ∃ C : World → Prop, C = fun w' => w'.cell? ⟨w.heap.size, 1, none⟩ = some (.slice (some ⟨gl, 0, none⟩) n cp) ∧ w'.cell? ⟨gl, k * 6, none⟩ = some (.pointer (some ⟨l.rb k, 0, none⟩)) := ⟨_, rfl⟩
        have hCo : ∀ w', C w' → w'.cell? ⟨w.heap.size, 1, none⟩ = some (.slice (some ⟨gl, 0, none⟩) n cp) ∧ w'.cell? ⟨gl, k * 6, none⟩ = some (.pointer (some ⟨l.rb k, 0, none⟩)) := fun w' h => by rw [hC] at h; exact h
        have hCi : ∀ w', w'.cell? ⟨w.heap.size, 1, none⟩ = some (.slice (some ⟨gl, 0, none⟩) n cp) → w'.cell? ⟨gl, k * 6, none⟩ = some (.pointer (some ⟨l.rb k, 0, none⟩)) → C w' := fun w' h1 h2 => by rw [hC]; exact ⟨h1, h2⟩
        have hC0 : C wr.drew := hCi _ b1 cc
        have cc1 : ∀ x : { w' // C w' }, x.1.cell? ⟨w.heap.size, 1, none⟩ = some (.slice (some ⟨gl, 0, none⟩) n cp) := fun y => (hCo _ y.2).1
        have cc2 : ∀ x : { w' // C w' }, x.1.cell? ⟨gl, k * 6, none⟩ = some (.pointer (some ⟨l.rb k, 0, none⟩)) := fun y => (hCo _ y.2).2
        haveI : Nonempty { w' // C w' } := ⟨⟨_, hC0⟩⟩
        go_wp2_with fail
        refine wp_region_fxl C [9] [12] [1, 4, 8] rfl (by kernel_rfl) hC0 (fun M => ?_)
        clear b1 cc hP hU e1 e2
        generalize wr.drew = w3 at *
        refine wpFx_pure rfl (fun K hK => ?_); go_simp; refine hK _ ?_; clear hK K
        refine wpFx_load rfl rfl (fun K hK => ?_); go_simp; refine hK _ ?_; clear hK K
        refine wpFx_pure rfl (fun K hK => ?_); go_simp; refine hK _ ?_; clear hK K
        refine wpFx_pure rfl (fun K hK => ?_); go_simp; refine hK _ ?_; clear hK K
        refine wpFx_load rfl rfl (fun K hK => ?_); go_simp; refine hK _ ?_; clear hK K
        refine wpFx_pure rfl (fun K hK => ?_); go_simp; refine hK _ ?_; clear hK K
        refine wpFx_pure rfl (fun K hK => ?_); go_simp; refine hK _ ?_; clear hK K
        refine wpFx_pure rfl (fun K hK => ?_); go_simp; refine hK _ ?_; clear hK K
        refine wpFx_load rfl rfl (fun K hK => ?_); go_simp; refine hK _ ?_; clear hK K
        refine wpFx_es rfl rfl (fun K hK => ?_); go_simp
        refine (rh_clone hRo).mono ?_
        rintro e w4 ⟨R, G, rfl, hR1, hG1, hRg, hU4⟩
        have hP4 := hPd.upd hU4
        obtain ⟨xs1, e1, e2⟩ := hP4.ends
        have b1 := hP4.blk.cell (i := 1) rfl
        have hval := e2.2 k _ hke 0 (.pointer (some ⟨l.rb k, 0, none⟩)) (by simp [endC])
        rw [Nat.add_zero] at hval
        have cc := e1.cell rfl hval
        rw [Nat.zero_add] at cc
        have cf := e1.frozen (k * 6)
        refine hK _ _ (hCi _ b1 cc) ?_
        clear hK K
        have hs := hPd.step Hn.out hke hU4 hR1 hG1 hRg (by have := hUd.size; omega)
        have hUs := (hUd.trans_same hU4).setCell (a := ⟨gl, k * 6, none⟩) (Or.inr hgb) (.pointer (some ⟨R, 0, none⟩))
        go_simp
        refine wpFx_pure rfl (fun K hK => ?_); go_simp; refine hK _ ?_; clear hK K
        refine wpFx_pure rfl (fun K hK => ?_); go_simp; refine hK _ ?_; clear hK K
        refine wpFx_et rfl rfl rfl (fun K hK => ?_); go_simp
        refine hK _ _ ?_; clear hK K
        refine wpFx_nil ?_
        have hfin : ∃ rb g tag foot, PClo (w4.setCell ⟨gl, k * 6, none⟩ (.pointer (some ⟨R, 0, none⟩))) w.heap.size w.heap.size gl cp n (k + 1) p.clients p.size (.slice bo p.box.length bc) (.slice oo p.outs.length oc) p.ends l.rb rb g tag foot := ⟨_, _, _, _, hs⟩
        clear hs hPd hP4 hRo hRg hU4 hUd e1 e2 hval cc cf cc1 cc2 hC0 hCi hCo hC b1 hel hou hbo hE hL
        go_wp2_with fail
        go_roundw
        case rel => exact ⟨k + 1, hkn, by go_num, hfin, hUs⟩
        case measure => simp [intOf]; omega
      · obtain rfl : k = n := by omega
        have hb2 : ∀ o, (wr.alloc o).cell? ⟨b, 2, none⟩ = some l.vb := fun o => ((h.blk.upd hU (by simp)).alloc o).cell rfl
        rw [hvb] at hb2
        go_wp2_with (with_reducible refine wpList_append_gen rfl (.tmp 37) (.tmp 41) 93 93 rfl 35 (.slice none 0 0) 1 24 Try.underlying93 Try.infoBytes rfl wr.heap.size ?b1 _ 0 [] rfl ?b2 _ p.box.length ys rfl ?b3 ?b4 ?b5 ?b6)
        case b1 => simp
        case b2 => exact ⟨rfl, Or.inr ⟨wr.heap.size, 0, 0, [], [], rfl, Nat.le_refl _, by simpa using blk_new wr 35 [], rfl, by simp, Nat.le_refl _, by decide⟩⟩
        case b3 => exact OwnE.src ((hbo.upd hU (by simp)).upd ((Upd.refl [] _).alloc _) (by simp)) Try.underlying93 hyone
        case b4 => unfold maxLen; omega
        case b5 => omega
        case b6 =>
          intro vb' w5 hown5 hU5 hblk5 hnil5 hoff5
          try simp only [Nat.zero_add, List.nil_append] at hown5
          have hU5' : Upd [] wr w5 := ((Upd.refl [] wr).alloc _).trans (fun q hq => Or.inr (by simp [Value.ownBlock] at hq; omega)) hU5
          have hP5 := hP.upd hU5'
          have c2 := hP5.blk.cell (i := 2) rfl
          have f2 := hP5.blk.frozen 2
          have hP6 := hP5.putc (i := 2) (u := vb') (vb' := vb') (vo' := .slice oo p.outs.length oc) rfl
          have hvbn : ∀ q, vb'.ownBlock = some q → q ∉ foot := fun q hq hq' => by have := (hown5.lt q hq).1; have := hP.lt q hq'; omega
          have hU6 : Upd [] w (w5.setCell ⟨w.heap.size, 2, none⟩ vb') := (hU.trans_same hU5').setCell (Or.inr (Nat.le_refl _)) _
          have hown6 := (hown5.mono (base' := w.heap.size) (by have := hU.size; omega)).upd (w1 := w5.setCell ⟨w.heap.size, 2, none⟩ vb') (F := [w.heap.size]) ((Upd.refl _ _).setCell (a := ⟨w.heap.size, 2, none⟩) (Or.inl (by simp)) _) (fun q hq hq' => by simp at hq'; subst hq'; exact hvbn _ hq hP.tb.2.2)
          obtain ⟨ao5, co5, rfl⟩ := hown5.shape
          have hb3 : ∀ o, ((w5.setCell ⟨w.heap.size, 2, none⟩ (.slice ao5 p.box.length co5)).alloc o).cell? ⟨b, 3, none⟩ = some l.vo := fun o => ((h.blk.upd hU6 (by simp)).alloc o).cell rfl
          rw [hvo] at hb3
          clear hU5 hblk5 hnil5 hoff5 hown5 hb2 hP hU hU5'
          have hP5l := hP5.lt
          clear hP5
          have hsz5 : (w5.setCell ⟨w.heap.size, 2, none⟩ (.slice ao5 p.box.length co5)).heap.size = w5.heap.size := World.size_setCell ..
          go_wp2_with (with_reducible refine wpList_append_gen rfl (.tmp 44) (.tmp 48) 42 42 rfl 51 (outV ⟨0, 0, .empty, DestM.zero⟩) 10 72 Try.underlying42 Try.infoOut rfl w5.heap.size ?c1 _ 0 [] rfl ?c2 _ p.outs.length (outsC p.outs) rfl ?c3 ?c4 ?c5 ?c6)
          case c1 => rw [World.size_alloc, hsz5]; omega
          case c2 => exact ⟨rfl, Or.inr ⟨w5.heap.size, 0, 0, [], [], rfl, Nat.le_refl _, by have := blk_new (w5.setCell ⟨w.heap.size, 2, none⟩ (.slice ao5 p.box.length co5)) 51 []; rw [hsz5] at this; simpa using this, rfl, by simp, Nat.le_refl _, by decide⟩⟩
          case c3 => exact OwnE.src (Or.inl ((hou.upd hU6 (by simp)).upd ((Upd.refl [] _).alloc _) (by simp))) Try.underlying42 hoone
          case c4 => unfold maxLen; omega
          case c5 => omega
          case c6 =>
            intro vo' w7 hown7 hU7 hblk7 hnil7 hoff7
            try simp only [Nat.zero_add, List.nil_append] at hown7
            have hU7' : Upd [] (w5.setCell ⟨w.heap.size, 2, none⟩ (.slice ao5 p.box.length co5)) w7 := ((Upd.refl [] _).alloc _).trans (fun q hq => Or.inr (by simp [Value.ownBlock] at hq; rw [hsz5]; omega)) hU7
            have hP7 := hP6.upd hU7'
            have c3 := hP7.blk.cell (i := 3) rfl
            have f3 := hP7.blk.frozen 3
            have hP8 := hP7.putc (i := 3) (u := vo') (vb' := .slice ao5 p.box.length co5) (vo' := vo') rfl
            have hvon : ∀ q, vo'.ownBlock = some q → q ∉ foot := fun q hq hq' => by have := (hown7.lt q hq).1; have := hP5l q hq'; omega
            have hvon2 : ∀ q, vo'.ownBlock = some q → (Value.slice ao5 p.box.length co5).ownBlock ≠ some q := fun q hq hq' => by have := (hown7.lt q hq).1; have := (hown6.lt q hq').2; omega
            have hU8 : Upd [] w (w7.setCell ⟨w.heap.size, 3, none⟩ vo') := (hU6.trans_same hU7').setCell (Or.inr (Nat.le_refl _)) _
            have hs8 : Upd [w.heap.size] w7 (w7.setCell ⟨w.heap.size, 3, none⟩ vo') := (Upd.refl _ _).setCell (a := ⟨w.heap.size, 3, none⟩) (Or.inl (by simp)) _
            have hown8 := (hown7.mono (base' := w.heap.size) (by have := hU6.size; omega)).upd hs8 (fun q hq hq' => by simp at hq'; subst hq'; exact hvon _ hq hP6.tb.2.2)
            have hown9 := (hown6.upd hU7' (by simp)).upd hs8 (fun q hq hq' => by simp at hq'; subst hq'; exact hvbn _ hq hP6.tb.2.2)
            have hP9 := hP8
            rw [show k = p.ends.length from Hn.out] at hP9
            have hD := PClo.done h hP9 hU8 hown9 hown8 hel hvbn (fun q hq => ⟨hvon q hq, hvon2 q hq⟩)
            obtain ⟨ao7, co7, rfl⟩ := hown7.shape
            clear hP9 hP8 hP7 hP6 hown9 hown8 hown7 hown6 hU7 hU7' hblk7 hnil7 hoff7 hU6 hU8 hs8 hel
            go_wp2_with fail
            go_ret
            exact hD
end

end Go.Proofs.Ytnbhgfnjnccakaa
