/- What comes out, with what is still there, is just what went in: the walk of the law RingOrder. -/
import Derived.Test.YtfieggpoofemmaaRing9
import Derived.Test.YtfieggpoofemmaaFx
namespace Go.Proofs.Ytfieggpoofemmaa
open Go Go.RowKit
set_option linter.unusedVariables false

/-- What holds at the head of a round: in, out and the ring. -/
structure OrderRel (w : World) (b g k : Nat) (inV outV : Value) (wr : World) : Prop where
  ex : ∃ (ins outs : List UInt8) (r : RingM), outs ++ r.xs = ins ∧ r.size ≤ 4096 ∧ ins.length ≤ k * 4096 ∧ Own wr w.heap.size 5 1 inV ins.length (ins.map byteV) ∧
    Own wr w.heap.size 5 1 outV outs.length (outs.map byteV) ∧ RingAt wr b g r
  ap1 : ∀ q, inV.ownBlock = some q → q ≠ b ∧ q ≠ g
  ap2 : ∀ q, outV.ownBlock = some q → q ≠ b ∧ q ≠ g
  ap3 : ∀ q q', inV.ownBlock = some q → outV.ownBlock = some q' → q ≠ q'
  upd : Upd [] w wr

theorem mem_own {v : Value} {q : Nat} (h : q ∈ v.ownBlock.toList) : v.ownBlock = some q := by
  cases hv : v.ownBlock with
  | none => rw [hv] at h; cases h
  | some x => rw [hv] at h; simp at h; rw [h]

theorem strB_size (a : List UInt8) : (strB a).size = a.length := by simp [strB, ByteArray.size]
theorem strB_append (a b : List UInt8) : strB (a ++ b) = strB a ++ strB b := by
  apply ByteArray.ext
  simp [strB]

/-- A first piece of a byte slice, handed to an append. -/
theorem Rd.src {P : Program} {w : World} {ao : Option Addr} {cap n : Nat} {bs : List UInt8} (h : Rd w (.slice ao bs.length cap) bs) (hn : n ≤ bs.length) {tx e' : TypeId} (hk : P.underlying tx = some (.slice e')) :
    Src P 1 tx (.slice ao n cap) n ((bs.take n).map byteV) w := by
  obtain ⟨ao', cap', hv, h1, h2, hnil, hsome⟩ := h
  injection hv with e1 e2 e3
  subst e1 e3
  cases ao with
  | none =>
    have hc := hnil rfl
    obtain rfl : n = 0 := by omega
    exact Src.ofNil w hk cap
  | some ad =>
    obtain ⟨hsp, hc⟩ := hsome ad rfl
    refine Src.ofSlice w hk ad n cap _ (by simp; omega) (fun j u hj => ?_) (bytesV_one _)
    have hjn : j < n := by have := (List.getElem?_eq_some_iff.1 hj).1; simp at this; omega
    have hne : bs ≠ [] := fun e => by subst e; simp at hn; omega
    have hs := hsp hne
    obtain ⟨b, o, sp⟩ := ad
    simp only at hs hc
    subst hs
    rw [addr_add]
    refine hc j u ?_
    rw [← hj, List.map_take, List.getElem?_take_of_lt hjn]

set_option maxHeartbeats 1000000 in
set_option maxRecDepth 100000 in
theorem ringOrder_law (w : World) (size : Int) (a1 a2 : Option Addr) (len1 cap1 len2 cap2 : Nat) (css : Nat → List UInt8) (zs : List Int) (h1 : BRows w a1 len1 css) (hl1 : len1 ≤ 1048576)
    (h2 : IRow w a2 len2 zs) (hl2 : len2 ≤ 9223372036854775807) :
    Calls Try.prog 3 #[.int .i64 size, .slice a1 len1 cap1, .slice a2 len2 cap2] w (Fine w (.bool true)) := by
  have hr := among_range size 4096 (by decide)
  go_enter Try.func3, Try.ntmps3
  go_wp2_with fail
  refine (ring_works _).mono ?_
  rintro e w1 ⟨rfl, hU1⟩
  go_wp2_with fail
  refine (among_any size 4096 _ (by decide) (by decide)).mono ?_
  rintro e w' ⟨rfl, rfl⟩
  generalize among size 4096 = sz at *
  go_wp2_with fail
  refine (ring_new sz _ hr.1 (by omega)).mono ?_
  rintro e w2 ⟨b, g, rfl, hb, hg, h, hU2⟩
  have hU2 := hU1.trans_same hU2
  have hbw : w.heap.size ≤ b := Nat.le_trans hU1.size hb
  have hgw : w.heap.size ≤ g := Nat.le_trans hU1.size hg
  have hlt := h.lt
  go_wp2_with fail
  have hst : OrderRel w b g 0 (.slice (some ⟨w2.heap.size, 0, none⟩) 0 0) (.slice (some ⟨w2.heap.size + 1, 0, none⟩) 0 0) ((w2.alloc (.cells #[] 5)).alloc (.cells #[] 5)) := by
    have e1 : (w2.alloc (.cells #[] 5)).heap.size = w2.heap.size + 1 := by simp
    refine ⟨⟨[], [], RingM.new sz.toNat, rfl, ?_, Nat.zero_le _, ?_, ?_, ?_⟩, ?_, ?_, ?_, (hU2.alloc _).alloc _⟩
    · simp [RingM.new]; omega
    · exact ⟨rfl, Or.inr ⟨w2.heap.size, 0, 0, [], [], rfl, hU2.size, by simpa using (blk_new w2 5 []).alloc _, rfl, by simp, Nat.le_refl _, by decide⟩⟩
    · refine ⟨rfl, Or.inr ⟨w2.heap.size + 1, 0, 0, [], [], rfl, Nat.le_succ_of_le hU2.size, ?_, rfl, by simp, Nat.le_refl _, by decide⟩⟩
      have := blk_new (w2.alloc (.cells #[] 5)) 5 []
      rw [e1] at this
      simpa using this
    · exact h.upd (((Upd.refl [] _).alloc _).alloc _) (by simp) (by simp)
    · intro q hq; simp [Value.ownBlock] at hq; omega
    · intro q hq; simp [Value.ownBlock] at hq; omega
    · intro q q' hq hq'; simp [Value.ownBlock] at hq hq'; omega
  clear h hb hg hU1 hU2 hr hlt
  generalize (Value.slice (some ⟨w2.heap.size, 0, none⟩) 0 0) = in0 at *
  generalize (Value.slice (some ⟨w2.heap.size + 1, 0, none⟩) 0 0) = out0 at *
  go_loopw [9, 10, 11] (fun inV outV i wr => ∃ k : Nat, k ≤ len1 ∧ i = .int .i64 k ∧ OrderRel w b g k inV outV wr) (fun _ _ i _ => len1 - (intOf i).toNat)
  case atStart => exact ⟨0, Nat.zero_le _, rfl, hst⟩
  case round =>
    clear hst
    obtain ⟨k, hk, rfl, hrl⟩ := hrel
    obtain ⟨⟨ins, outs, r, hys, hsz, hil, hin, hout, hR⟩, ap1, ap2, ap3, hup⟩ := hrl
    obtain ⟨ai, ci, rfl⟩ := hin.shape
    obtain ⟨ao, co, rfl⟩ := hout.shape
    by_cases hlt : k < len1
    · obtain ⟨x, v, rfl, hcx0, hrd, hxl⟩ := h1 k hlt
      have hcx : wr.cell? (x.add k) = some v := by rw [hup.cell (by rw [block_add]; exact hxl) (by simp)]; exact hcx0
      have hrd' := hrd.upd hup (by simp)
      have hrd0 := hrd
      have hP := ring_put hR hrd' (fun hne e => by have := hrd.lt hne _ e; omega)
      have hp1 : r.putN (css k) ≤ (css k).length := by unfold RingM.putN; omega
      have hp2 : r.putN (css k) ≤ 4096 := by unfold RingM.putN; omega
      obtain ⟨av, cv, rfl, hvl, hvc, hvn, hvs⟩ := hrd
      have hap := hR.lt
      have Hys := Lib.hid hys
      have hys' : (outs ++ (r.put (css k)).xs) = ins ++ (css k).take (r.putN (css k)) := by
        rw [← hys, List.append_assoc]; rfl
      have Hys' := Lib.hid hys'
      have hsz' : (r.put (css k)).size ≤ 4096 := hsz
      clear hys hys' hrd'
      generalize r.put (css k) = r1 at *
      generalize r.putN (css k) = n1 at *
      go_wp2_with fail
      refine hP.mono ?_
      rintro e w3 ⟨rfl, hr3, hU3⟩
      have hU3' := hup.trans (fun k hk => Or.inr (by simp at hk; omega)) hU3
      have hcx3 : w3.cell? (x.add k) = some (.slice av (css k).length cv) := by
        rw [hU3'.cell (by rw [block_add]; exact hxl) (by simp)]; exact hcx0
      have hrd3 := hrd0.upd hU3' (by simp)
      have hin := hin.upd hU3 (fun q hq => by have := ap1 q hq; simp; omega)
      have hout := hout.upd hU3 (fun q hq => by have := ap2 q hq; simp; omega)
      have hle : ins.length + n1 ≤ (k + 1) * 4096 := by omega
      have hU3s := hU3.size
      clear hP hcx hrd0 hR hvs hvn hU3
      go_wp2_with (with_reducible refine wpList_append_gen rfl (.tmp 52) (.tmp 58) 30 30 rfl 5 (.int .u8 0) 1 1 Try.underlying30 Try.info5 rfl w.heap.size ?a1 _ ins.length (ins.map byteV) rfl ?a2 _ n1 (((css k).take n1).map byteV) rfl ?a3 ?a4 ?a5 ?a6)
      case a1 => exact hU3'.size
      case a2 => exact hin
      case a3 => exact hrd3.src hp1 Try.underlying30
      case a4 => unfold maxLen; omega
      case a5 => omega
      case a6 =>
        intro v' wa hin' hUa hblk hnil hoff
        rw [← List.map_take, ← List.map_append] at hin'
        have hR' : RingAt wa b g r1 := hr3.upd hUa (fun hq => (ap1 _ (mem_own hq)).1 rfl) (fun hq => (ap1 _ (mem_own hq)).2 rfl)
        have hol := hout.lt
        have hout := hout.upd hUa (fun q hq hq' => ap3 _ _ (mem_own hq') hq rfl)
        have hup' := hU3'.trans (fun q hq => Or.inr (hin.lt q (mem_own hq)).1) hUa
        have hl' : (ins ++ (css k).take n1).length = ins.length + n1 := by rw [List.length_append, List.length_take]; omega
        have hnew : OrderRel w b g (k + 1) v' (.slice ao outs.length co) wa := by
          refine ⟨⟨_, outs, r1, Hys'.out, hsz', by rw [hl']; exact hle, by rw [hl']; exact hin', hout, hR'⟩, ?_, ap2, ?_, hup'⟩
          · intro q hq
            rcases hblk q hq with h | h
            · exact ap1 q h
            · have := hr3.lt; omega
          · intro q q' hq hq'
            rcases hblk q hq with h | h
            · exact ap3 q q' h hq'
            · have := (hol q' hq').2; omega
        clear hin' hUa hblk hnil hoff hin hout hR' hup' hr3 hrd3 hcx3 hcx0 hU3' hap hvl hvc Hys Hys' hU3s hup ap1 ap2 ap3 hp1 hp2 hsz hsz' hil hle hl' hol hxl
        generalize (Value.slice ao outs.length co) = outV at *
        by_cases hd : k < len2
        · obtain ⟨y, rfl, hcy, hyl⟩ := h2 k hd
          generalize zs.getD k 0 = z at *
          obtain ⟨⟨ins, outs, r, hys, hsz, hil, hin, hout, hR⟩, ap1, ap2, ap3, hup⟩ := hnew
          have hcy : wa.cell? (y.add k) = some (.int .i64 z) := by
            rw [hup.cell (by rw [block_add]; exact hyl) (by simp)]; exact hcy
          have hT := ring_take z hR
          have hys' : (outs ++ r.peek z) ++ (r.drop z).xs = ins := by
            rw [← hys, List.append_assoc]
            congr 1
            exact List.take_append_drop _ _
          have hpl : (outs ++ r.peek z).length ≤ ins.length := by
            rw [← hys']; simp only [List.length_append]; omega
          have hRl := hR.lt
          rw [List.length_append] at hpl
          have Hys' := Lib.hid hys'
          have hsz' : (r.drop z).size ≤ 4096 := hsz
          clear h1 h2 hys hys'
          generalize r.peek z = pz at *
          generalize r.drop z = r2 at *
          go_wp2_with fail
          refine hT.mono ?_
          rintro e wt ⟨G, rfl, hG, hB, hR2, hUt⟩
          have hin := hin.upd hUt (fun q hq => by have := ap1 q hq; simp; omega)
          have hout := hout.upd hUt (fun q hq => by have := ap2 q hq; simp; omega)
          have hup := hup.trans (fun k hk => Or.inr (by simp at hk; omega)) hUt
          have hUs := hUt.size
          clear hT hR hcy hUt
          go_wp2_with (with_reducible refine wpList_append_gen rfl (.tmp 64) (.tmp 70) 30 30 rfl 5 (.int .u8 0) 1 1 Try.underlying30 Try.info5 rfl w.heap.size ?b1 _ outs.length (outs.map byteV) rfl ?b2 _ pz.length (pz.map byteV) rfl ?b3 ?b4 ?b5 ?b6)
          case b1 => exact hup.size
          case b2 => exact hout
          case b3 => exact Src.ofSlice _ Try.underlying30 ⟨G, 0, none⟩ _ _ _ (by simp) (fun j u hj => by rw [addr_add, Nat.zero_add]; exact hB.cell hj) (bytesV_one _)
          case b4 => unfold maxLen; omega
          case b5 => omega
          case b6 =>
            intro v2 wb hout' hUa hblk hnil hoff
            rw [← List.map_append, ← List.length_append] at hout'
            have hR' := hR2.upd hUa (fun hq => (ap2 _ (mem_own hq)).1 rfl) (fun hq => (ap2 _ (mem_own hq)).2 rfl)
            have hinl := hin.lt
            have hin := hin.upd hUa (fun q hq hq' => ap3 _ _ hq (mem_own hq') rfl)
            have hup' := hup.trans (fun q hq => Or.inr (hout.lt q (mem_own hq)).1) hUa
            have hnew : OrderRel w b g (k + 1) v' v2 wb := by
              refine ⟨⟨ins, _, r2, Hys'.out, hsz', hil, hin, hout', hR'⟩, ap1, ?_, ?_, hup'⟩
              · intro q hq
                rcases hblk q hq with h | h
                · exact ap2 q h
                · have := hR2.lt; omega
              · intro q q' hq hq'
                rcases hblk q' hq' with h | h
                · exact ap3 q q' hq h
                · have := (hinl q hq).2; omega
            clear hout' hUa hblk hnil hoff hin hinl hout hR' hup' hB hR2 hup ap1 ap2 ap3 Hys'
            go_wp2_with fail
            go_roundw
            case rel => exact ⟨k + 1, by omega, by go_num, hnew⟩
            case measure => simp [intOf]; omega
        · clear h1 h2
          go_wp2_with fail
          go_roundw
          case rel => exact ⟨k + 1, by omega, by go_num, hnew⟩
          case measure => simp [intOf]; omega
    · have hol := hout.lt
      have hinl := hin.lt
      have hRl := hR.lt
      have hri := hin.rd
      have hro := hout.rd
      have hfit := hR.fit
      have hP := fun w' (hu : Upd [] wr w') => ring_peek 65536 (hR.upd hu (by simp) (by simp))
      have e1 : r.peek 65536 = r.xs := by
        unfold RingM.peek RingM.cnt
        exact List.take_of_length_le (by omega)
      rw [e1] at hP
      have Hys := Lib.hid hys
      clear h1 h2 e1 hys
      go_wp2_with fail
      obtain ⟨C, hC⟩ : ∃ C : World → Prop, C = fun w' => Rd w' (.slice ai ins.length ci) ins ∧ Rd w' (.slice ao outs.length co) outs := ⟨_, rfl⟩
      have hCi : ∀ w', C w' → Rd w' (.slice ai ins.length ci) ins ∧ Rd w' (.slice ao outs.length co) outs := fun w' h => by rw [hC] at h; exact h
      have hC0 : C wr.drew := by rw [hC]; exact ⟨hri, hro⟩
      have cc1 : ∀ x : { w' // C w' }, (convert 30 9 (.slice ai ins.length ci)).run Try.prog x.1 = .ok (.string (strB ins)) x.1 := fun x =>
        run_string_of (hCi _ x.2).1 30 5 9 Try.underlying30 Try.underlying5 Try.underlying9
      have cc2 : ∀ x : { w' // C w' }, (convert 30 9 (.slice ao outs.length co)).run Try.prog x.1 = .ok (.string (strB outs)) x.1 := fun x =>
        run_string_of (hCi _ x.2).2 30 5 9 Try.underlying30 Try.underlying5 Try.underlying9
      haveI : Nonempty { w' // C w' } := ⟨⟨_, hC0⟩⟩
      refine wp_region_fxl C [5, 6] [] [1, 3] rfl (by kernel_rfl) hC0 (fun M => ?_)
      refine wpFx_pure rfl (fun K hK => ?_); go_simp; refine hK _ ?_; clear hK K
      refine wpFx_load rfl rfl (fun K hK => ?_); go_simp; refine hK _ ?_; clear hK K
      refine wpFx_pure rfl (fun K hK => ?_); go_simp; refine hK _ ?_; clear hK K
      refine wpFx_load rfl rfl (fun K hK => ?_); go_simp; refine hK _ ?_; clear hK K
      refine wpFx_pure rfl (fun K hK => ?_); go_simp; refine hK _ ?_; clear hK K
      refine wpFx_es rfl rfl (fun K hK => ?_); go_simp
      refine (hP _ (Upd.refl _ _).drew).mono ?_
      rintro e wp ⟨G, rfl, hG, hB, hUp⟩
      have hCp : C wp := by
        rw [hC]
        exact ⟨hri.upd (w := wr.drew) hUp (by simp), hro.upd (w := wr.drew) hUp (by simp)⟩
      have cc3 := run_string_of (hB.rd (by omega)) 30 5 9 Try.underlying30 Try.underlying5 Try.underlying9
      refine hK _ _ hCp ?_; clear hK K
      refine wpFx_es rfl rfl (fun K hK => ?_); go_simp
      refine hK _ _ hCp ?_; clear hK K
      have hns : ¬ 9223372036854775807 < (strB outs).size + (strB r.xs).size := by
        have := congrArg List.length Hys.out
        rw [List.length_append] at this
        rw [strB_size, strB_size]
        omega
      have hsum : strB outs ++ strB r.xs = strB ins := by rw [← Hys.out, strB_append]
      refine wpFx_pure rfl (fun K hK => ?_); go_simp; refine hK _ ?_; clear hK K
      refine wpFx_pure rfl (fun K hK => ?_); go_simp; refine hK _ ?_; clear hK K
      refine wpFx_pure rfl (fun K hK => ?_); go_simp; refine hK _ ?_; clear hK K
      refine wpFx_nil ?_
      go_wp2_with fail
      go_ret
      exact ⟨rfl, hup.drew.trans_same hUp⟩

end Go.Proofs.Ytfieggpoofemmaa
