/- A handle that was closed stays closed: the walk of the law DescOld. -/
import Derived.Test.YtfejlokinopjbaaDesc13
import Derived.Test.YtfejlokinopjbaaDesc14
import Derived.Test.YtfejlokinopjbaaDescAct
import Derived.Test.YtfejlokinopjbaaBase0
import Derived.Deep.DeepCutAuto
namespace Go.Proofs.Ytfejlokinopjbaa
open Go Go.RowKit
set_option linter.unusedVariables false

/-- What holds between two rounds: the table, what is gone. -/
structure OldRel (w : World) (base b : Nat) (v : Value) (k : Nat) (out : Value) (t : TabM) (gs : List (Nat × Nat)) (wr : World) : Prop where
  tab : TabAt wr base b v t
  own : Own wr base 30 2 out gs.length (hcells gs)
  le : gs.length ≤ k
  over : ∀ p ∈ gs, Over t p
  ap : ∀ q, out.ownBlock = some q → q ≠ b ∧ v.ownBlock ≠ some q
  nn : out ≠ .slice none 0 0
  upd : Upd [] w wr

theorem old_start {w w2 : World} {base b : Nat} {v : Value} {t : TabM} (h : TabAt w2 base b v t) (hU : Upd [] w w2) (hb : base ≤ w2.heap.size) :
    OldRel w base b v 0 (.slice (some ⟨w2.heap.size, 0, none⟩) 0 0) t [] (w2.alloc (.cells #[] 30)) := by
  have hl := h.lt
  refine ⟨h.upd ((Upd.refl [] _).alloc _) (by simp) (by simp), ⟨rfl, Or.inr ⟨w2.heap.size, 0, 0, [], [], rfl, hb, by simpa [hcells] using blk_new w2 30 [], rfl, by simp, Nat.le_refl _, by decide⟩⟩, Nat.le_refl _, by simp, fun q hq => ?_, (fun h => by cases h), hU.alloc _⟩
  simp [Value.ownBlock] at hq
  subst hq
  exact ⟨by omega, fun h' => by have := (h.vlt _ h').2; omega⟩

theorem among2 (n : Int) : among n 2 = 0 ∨ among n 2 = 1 := by
  have := among_range n 2 (by decide)
  omega

theorem TabAt.drewN {w : World} {base b : Nat} {v : Value} {t : TabM} (h : TabAt w base b v t) (m : Nat) : TabAt (w.drewN m) base b v t := h.upd ((Upd.refl [] _).drewN m) (by simp) (by simp)

theorem old_open {w wr w4 w5 : World} {base b k m : Nat} {v out : Value} {t : TabM} {gs : List (Nat × Nat)} {kind num : Int} (h : OldRel w base b v k out t gs wr) (hU : Upd [] wr w4) (hb : w.heap.size ≤ base) (hp : TabPost (w4.drewN m) base b v (t.openT kind num) w5) :
    OldRel w base b v (k + 1) out (t.openT kind num) gs w5 := by
  have h4 := h.tab.upd (hU.drewN m) (by simp) (by simp)
  have hU4 := (h.upd.trans_same hU).drewN m
  refine ⟨hp.1, (h.own.upd (hU.drewN m) (by simp)).upd hp.2 (fun q hq => ?_), Nat.le_succ_of_le h.le, fun p hp => (h.over p hp).open kind num, h.ap, h.nn, hp.below h4 hU4 hb⟩
  intro h'
  obtain ⟨a1, a2⟩ := h.ap q hq
  rcases List.mem_cons.1 h' with h' | h'
  · exact a1 h'
  · exact a2 (mem_ownD h')

theorem OldRel.same {w wr w' : World} {base b k : Nat} {v out : Value} {t : TabM} {gs : List (Nat × Nat)} (h : OldRel w base b v k out t gs wr) (hU : Upd [] wr w') : OldRel w base b v k out t gs w' :=
  { h with tab := h.tab.upd hU (by simp) (by simp), own := h.own.upd hU (by simp), upd := h.upd.trans_same hU }
theorem OldRel.apart {w wr : World} {base b k : Nat} {v out : Value} {t : TabM} {gs : List (Nat × Nat)} (h : OldRel w base b v k out t gs wr) : ∀ q, out.ownBlock = some q → q ∉ b :: v.ownBlock.toList := fun q hq h' => by
  obtain ⟨a1, a2⟩ := h.ap q hq
  rcases List.mem_cons.1 h' with h' | h'
  · exact a1 h'
  · exact a2 (mem_ownD h')
theorem OldRel.post {w wr w' : World} {base b k : Nat} {v out : Value} {t : TabM} {gs : List (Nat × Nat)} (h : OldRel w base b v k out t gs wr) (hb : w.heap.size ≤ base) (hp : TabPost wr base b v t w') : OldRel w base b v k out t gs w' :=
  { h with tab := hp.1, own := h.own.upd hp.2 h.apart, upd := hp.below h.tab h.upd hb }
theorem OldRel.fresh {w wr : World} {base b k : Nat} {v out : Value} {t : TabM} {gs : List (Nat × Nat)} (h : OldRel w base b v k out t gs wr) : wr.heap.size ∉ b :: v.ownBlock.toList := fun h' => by
  rcases List.mem_cons.1 h' with h' | h'
  · have := h.tab.lt; omega
  · have := (h.tab.vlt _ (mem_ownD h')).2; omega

/-- Behind a Close, ahead of the append. -/
def OldClosed (w : World) (base b : Nat) (v : Value) (k : Nat) (out : Value) (t : TabM) (p : Nat × Nat) (gs : List (Nat × Nat)) (w' : World) : Prop :=
  TabAt w' base b v (t.turn p.1 p.2 EntM.closed) ∧ Own w' base 30 2 out gs.length (hcells gs) ∧ gs.length ≤ k ∧ (∀ q ∈ gs ++ [p], Over (t.turn p.1 p.2 EntM.closed) q) ∧ (∀ q, out.ownBlock = some q → q ≠ b ∧ v.ownBlock ≠ some q) ∧ out ≠ .slice none 0 0 ∧ Upd [] w w' ∧ w.heap.size ≤ base

theorem old_close {w wr w' : World} {base b k : Nat} {v out : Value} {t : TabM} {gs : List (Nat × Nat)} {p : Nat × Nat} (h : OldRel w base b v k out t gs wr) (hb : w.heap.size ≤ base) (hpm : p ∈ t.live) (hp : TabPost wr base b v (t.turn p.1 p.2 EntM.closed) w') :
    OldClosed w base b v k out t p gs w' := by
  refine ⟨hp.1, h.own.upd hp.2 h.apart, h.le, fun q hq => ?_, h.ap, h.nn, hp.below h.tab h.upd hb, hb⟩
  rcases List.mem_append.1 hq with hq | hq
  · exact (h.over q hq).close hpm
  · simp at hq; subst hq; exact over_closed h.tab.fine hpm

theorem old_gone {w wr wa w' : World} {base b k : Nat} {v out v' : Value} {o : Obj} {t : TabM} {gs : List (Nat × Nat)} {p : Nat × Nat} (h : OldClosed w base b v k out t p gs wr) (hwa : wa = wr.alloc o)
    (hown : Own w' base 30 2 v' (gs.length + 1) (hcells gs ++ [.int .i64 p.1, .int .i64 p.2])) (hU : Upd out.ownBlock.toList wa w') (hblk : ∀ g, v'.ownBlock = some g → out.ownBlock = some g ∨ wa.heap.size ≤ g) (hnn : v' = .slice none 0 0 → out = .slice none 0 0 ∧ 1 = 0) :
    OldRel w base b v (k + 1) v' (t.turn p.1 p.2 EntM.closed) (gs ++ [p]) w' := by
  obtain ⟨h1, h2, h3, h4, h5, h6, h7, h8⟩ := h
  have hl := h1.lt
  have ha : Upd [] wr wa := by rw [hwa]; exact (Upd.refl _ _).alloc _
  refine ⟨(h1.upd ha (by simp) (by simp)).upd hU (fun hq => (h5 _ (mem_ownD hq)).1 rfl) (fun q hq hq' => (h5 _ (mem_ownD hq')).2 hq), ?_, ?_, h4, fun q hq => ?_, fun h' => h6 (hnn h').1, (h7.trans_same ha).trans (fun q hq => Or.inr ?_) hU⟩
  · rw [hcells_append, List.length_append]
    exact hown
  · simp; omega
  · rcases hblk q hq with h' | h'
    · exact h5 q h'
    · have := ha.size
      exact ⟨by omega, fun h'' => by have := (h1.vlt q h'').2; omega⟩
  · have := (h2.lt q (mem_ownD hq)).1
    omega

set_option maxHeartbeats 2000000 in
set_option maxRecDepth 100000 in
theorem descOld_law (w : World) (entries : Int) (a1 : Option Addr) (len1 cap1 : Nat) (h1 : ActRow w a1 len1) (hl1 : len1 ≤ 9223372036854775807) (which : Int) :
    Calls Try.prog 4 #[.int .i64 entries, .slice a1 len1 cap1, .int .i64 which] w (Fine w (.bool true)) := by
  obtain ⟨hl40, h1⟩ := h1
  have hr := among_range entries 12 (by decide)
  obtain ⟨n, hn⟩ : ∃ n : Nat, among entries 12 = n := ⟨(among entries 12).toNat, by omega⟩
  go_enter Try.func4, Try.ntmps4
  go_wp2_with fail
  refine (desc_works _).mono ?_
  rintro e w1 ⟨rfl, hU1⟩
  go_wp2_with fail
  refine (among_any _ 12 _ (by decide) (by decide)).mono ?_
  rintro e w' ⟨rfl, rfl⟩
  rw [hn]
  go_wp2_with fail
  refine (tab_new n _ (by omega)).mono ?_
  rintro e w2 ⟨b, v, rfl, hT, k⟩
  have hU := hU1.trans_same k
  have hb := hU1.size
  have hst := old_start hT hU k.size
  clear k hU1 hU hT hr hn
  generalize w1.heap.size = base at *
  generalize TabM.new n = t0 at *
  go_wp2_with fail
  generalize (Value.slice (some ⟨w2.heap.size, 0, none⟩) 0 0) = out0 at *
  generalize w2.alloc (.cells #[] 30) = w3 at *
  go_loopw [9, 10] (fun out i wr => ∃ k : Nat, k ≤ len1 ∧ i = .int .i64 k ∧ ∃ t gs, OldRel w base b v k out t gs wr) (fun _ i _ => len1 - (intOf i).toNat)
  case atStart => exact ⟨0, Nat.zero_le _, rfl, _, _, hst⟩
  case round =>
    clear hst
    obtain ⟨k, hk, rfl, t, gs, hO⟩ := hrel
    obtain ⟨ao, co, rfl⟩ := hO.own.shape
    by_cases hlt : k < len1
    · obtain ⟨x, kd, ix, gen, kind, num, rfl, x0, x1, x2, x3, x4⟩ := h1 k hlt
      clear h1 x1 x2
      have hL := tab_live hO.tab
      go_wp2_with fail
      refine hL.mono ?_
      rintro e w4 ⟨lv, rfl, hlv, hU4⟩
      have hT4 := hO.tab.upd hU4 (by simp) (by simp)
      have hw4 := hO.upd.trans_same hU4
      have hg4 := hO.own.upd hU4 (by simp)
      have y0 : w4.cell? (x.add (k * 5)) = some (.int .i64 kd) := by rw [hw4.cell (World.block_lt_of_cell? _ _ x0) (by simp)]; exact x0
      have y3 : w4.cell? ⟨(x.add (k * 5)).block, (x.add (k * 5)).off + 3, none⟩ = some (.int .i64 kind) := by rw [hw4.cell (World.block_lt_of_cell? _ _ x3) (by simp)]; exact x3
      have y4 : w4.cell? ⟨(x.add (k * 5)).block, (x.add (k * 5)).off + 4, none⟩ = some (.int .i64 num) := by rw [hw4.cell (World.block_lt_of_cell? _ _ x4) (by simp)]; exact x4
      obtain ⟨al, cl, rfl⟩ := hlv.shape
      clear hL
      go_wp2_with fail
      refine (among_any kd 2 _ (by decide) (by decide)).mono ?_
      rintro e w' ⟨rfl, rfl⟩
      have hm : among kd 2 = 0 ∨ (among kd 2 = 1 ∧ t.live.length = 0) ∨ (among kd 2 = 1 ∧ ¬ t.live.length = 0) := by
        have := among2 kd
        omega
      generalize among kd 2 = am at *
      rcases hm with rfl | ⟨rfl, hl0⟩ | ⟨rfl, hl0⟩
      case' inl =>
        go_wp2_with fail
        refine wp_region_tail 11 (by kernel_rfl) (by kernel_rfl) ?_
        simp only [List.take_succ_cons, List.take_zero, List.drop_succ_cons, List.drop_zero]
        repeat still_step
        refine wpStill_nil ?_
        go_wp2_with fail
        refine (tab_open kind num (hT4.drewN 1)).mono ?_
        rintro e w5 ⟨rfl, hp⟩
        have hO5 := old_open hO hU4 hb hp
        generalize t.openT kind num = t5 at *
        have hgl5 := hO5.le
        generalize gs = gs5 at *
        generalize ao = ao5 at *
        generalize co = co5 at *
        clear hT4 hw4 hg4 hO hU4 hp y0 y3 y4 hlv
      case' inr.inl =>
        go_wp2_with fail
        refine wp_region_tail 11 (by kernel_rfl) (by kernel_rfl) ?_
        simp only [List.take_succ_cons, List.take_zero, List.drop_succ_cons, List.drop_zero]
        repeat still_step
        refine wpStill_nil ?_
        go_wp2_with fail
        refine (tab_open kind num (hT4.drewN 1)).mono ?_
        rintro e w5 ⟨rfl, hp⟩
        have hO5 := old_open hO hU4 hb hp
        generalize t.openT kind num = t5 at *
        have hgl5 := hO5.le
        generalize gs = gs5 at *
        generalize ao = ao5 at *
        generalize co = co5 at *
        clear hT4 hw4 hg4 hO hU4 hp y0 y3 y4 hlv
      case' inr.inr =>
        obtain ⟨gl, offl, cl', pre, rest, hvl, hgl, hBl, hpre, hrest, hnc, hcm⟩ := hlv.blk (by intro h; injection h with h1 h2; exact hl0 h2)
        cases hvl
        have hjr := among_range num t.live.length (by omega)
        obtain ⟨j, hj⟩ : ∃ j : Nat, among num t.live.length = j := ⟨(among num t.live.length).toNat, by omega⟩
        have hjl : j < t.live.length := by omega
        obtain ⟨p, hp⟩ : ∃ p, t.live[j]? = some p := ⟨t.live[j], List.getElem?_eq_getElem hjl⟩
        have hpm : p ∈ t.live := List.mem_of_getElem? hp
        obtain ⟨q0, q1⟩ := hcells_at hp
        have z0 := hlv.cell rfl q0
        have z1 := hlv.cell rfl q1
        rw [← Nat.add_assoc] at z1
        have eadd : (⟨gl, offl, none⟩ : Addr).add (j * 2) = ⟨gl, offl + j * 2, none⟩ := addr_add _ _ _
        have hn0 : (t.live.length : Int) ≠ 0 := by omega
        have hAm := among_any num t.live.length w4 (by omega) (by unfold maxLen at hcm; omega)
        rw [hj] at hAm
        have hn1 : decide ((t.live.length : Int) = 0) = false := decide_eq_false hn0
        generalize hLL : t.live.length = L at *
        clear hlv hBl hpre hrest hnc hcm q0 q1 hp hj hjr
        go_wp2_with fail
        refine hAm.mono ?_
        rintro e w' ⟨rfl, rfl⟩
        go_wp2_with fail
        have hO4 := (hO.same hU4).same ((Upd.refl [] w4).alloc (.cells #[.int .i64 p.1, .int .i64 p.2] 30))
        have hH := blk_new' w4 30 #[.int .i64 p.1, .int .i64 p.2]
        have hCl := tab_close p.1 p.2 hO4.tab
        rw [live_look hpm] at hCl
        have hfr := (hO.same hU4).fresh
        have hH4 : w4.heap.size < (w4.alloc (.cells #[.int .i64 p.1, .int .i64 p.2] 30)).heap.size := hH.lt
        generalize w4.alloc (.cells #[.int .i64 p.1, .int .i64 p.2] 30) = w6 at *
        generalize w4.heap.size = H at *
        refine hCl.mono ?_
        rintro e w7 ⟨rfl, hp7⟩
        have hO7 := old_close hO4 hb hpm hp7
        have hH7 := hH.upd hp7.2 hfr
        have x0' := hH7.cell (i := 0) rfl
        have x1' := hH7.cell (i := 1) rfl
        have hgk := hO4.le
        have hN := blk_new' w7 30 #[.int .i64 p.1, .int .i64 p.2]
        clear hT4 hw4 hg4 hO hU4 y0 y3 y4 hO4 hH hCl hAm z0 z1
        go_wp2_with (with_reducible refine wpList_append_gen rfl (.tmp 79) (.tmp 81) 39 39 rfl 30 (.agg #[.int .i64 0, .int .i64 0]) 2 16 Try.underlying39 Try.infoHandle rfl base ?a1 (.slice ao gs.length co) gs.length (hcells gs) rfl ?a2 _ 1 [.int .i64 p.1, .int .i64 p.2] rfl ?a3 ?a4 ?a5 ?a6)
        case a1 => have := hO7.1.blk.lt; have := hO7.1.base; simp; omega
        case a2 => exact hO7.2.1.upd ((Upd.refl [] _).alloc _) (by simp)
        case a3 => exact Src.ofSlice _ Try.underlying39 ⟨_, 0, none⟩ _ _ _ (by simp) (fun j u hj => by rw [addr_add, Nat.zero_add]; exact hN.cell hj) (by intro u hu; simp at hu; rcases hu with rfl | rfl <;> rfl)
        case a4 => unfold maxLen; omega
        case a5 => omega
        case' a6 =>
          intro v' w5 hown' hUa hblk hnil' hoff
          have hO5 := old_gone hO7 rfl hown' hUa (fun g hg => by rcases hblk g hg with h | h; exact Or.inl h; exact Or.inr (by simp only [World.size_alloc]; exact h)) (fun h => (hnil' h).elim)
          have hgl5 := hO5.le
          obtain ⟨ao5, co5, rfl⟩ := hO5.own.shape
          generalize t.turn p.1 p.2 EntM.closed = t5 at *
          generalize gs ++ [p] = gs5 at *
          clear hO7 hN hown' hUa hblk hnil' hoff hH7 x0' x1' hpm hp7 hH4 hfr hn0 hn1 hLL
      all_goals
        by_cases hz : gs5.length = 0
        · go_wp2_with fail
          go_roundw
          case rel =>
            have e : Value.slice ao5 gs5.length co5 = Value.slice ao5 0 co5 := by rw [hz]
            refine ⟨k + 1, hlt, by go_num, t5, gs5, ?_⟩
            first | exact hO5 | (rw [← e]; exact hO5)
          case measure => simp [intOf]; omega
        · obtain ⟨g5, o5, c5, pre, rest, hv5, hg5, hB5, hpre, hrest, hnc, hcm⟩ := hO5.own.blk hO5.nn
          cases hv5
          have hjr := among_range which gs5.length (by omega)
          obtain ⟨j, hj⟩ : ∃ j : Nat, among which gs5.length = j := ⟨(among which gs5.length).toNat, by omega⟩
          have hjl : j < gs5.length := by omega
          obtain ⟨p, hp⟩ : ∃ p, gs5[j]? = some p := ⟨gs5[j], List.getElem?_eq_getElem hjl⟩
          have hov := hO5.over p (List.mem_of_getElem? hp)
          obtain ⟨q0, q1⟩ := hcells_at hp
          have z0 := hO5.own.cell rfl q0
          have z1 := hO5.own.cell rfl q1
          rw [← Nat.add_assoc] at z1
          have eadd : (⟨g5, o5, none⟩ : Addr).add (j * 2) = ⟨g5, o5 + j * 2, none⟩ := addr_add _ _ _
          have hAm := among_any which gs5.length w5 (by omega) (by unfold maxLen at hcm; omega)
          rw [hj] at hAm
          have hH := blk_new' w5 30 #[.int .i64 p.1, .int .i64 p.2]
          have hO6 := hO5.same ((Upd.refl [] w5).alloc (.cells #[.int .i64 p.1, .int .i64 p.2] 30))
          have hLk := tab_lookup p.1 p.2 hO6.tab
          rw [hov.look, hov.got] at hLk
          clear hB5 hpre hrest hnc hcm q0 q1 hp hj hjr
          go_wp2_with fail
          refine hAm.mono ?_
          rintro e w' ⟨rfl, rfl⟩
          go_wp2_with fail
          have hfr := hO5.fresh
          generalize w5.alloc (.cells #[.int .i64 p.1, .int .i64 p.2] 30) = w6 at *
          generalize w5.heap.size = H at *
          refine hLk.mono ?_
          rintro e w7 ⟨rfl, hU7⟩
          have hO7 := hO6.same hU7
          have hH7 := hH.upd hU7 (by simp)
          have x0' := hH7.cell (i := 0) rfl
          have x1' := hH7.cell (i := 1) rfl
          have hSt := tab_set p.1 p.2 1 1 hO7.tab
          rw [hov.look, hov.turn] at hSt
          clear hO6 hH hLk hAm hU7 z0 z1 hO5
          go_wp2_with fail
          refine hSt.mono ?_
          rintro e w8 ⟨rfl, hp8⟩
          have hO8 := hO7.post hb hp8
          have hH8 := hH7.upd hp8.2 hfr
          have y0' := hH8.cell (i := 0) rfl
          have y1' := hH8.cell (i := 1) rfl
          have hCl := tab_close p.1 p.2 hO8.tab
          rw [hov.look, hov.turn] at hCl
          clear hSt hO7 hH7 hp8 x0' x1'
          go_wp2_with fail
          refine hCl.mono ?_
          rintro e w9 ⟨rfl, hp9⟩
          have hO9 := hO8.post hb hp9
          clear hCl hO8 hH8 hp9 y0' y1' hov
          go_wp2_with fail
          go_roundw
          case rel => exact ⟨k + 1, hlt, by go_num, t5, gs5, hO9⟩
          case measure => simp [intOf]; omega
    · obtain rfl : k = len1 := by omega
      go_wp2_with fail
      go_ret
      exact ⟨rfl, hO.upd⟩

end Go.Proofs.Ytfejlokinopjbaa
