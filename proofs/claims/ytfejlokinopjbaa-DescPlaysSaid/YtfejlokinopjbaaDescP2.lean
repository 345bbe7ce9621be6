/- A table answers as the document says: the walk of the law DescPlays. -/
import Derived.Test.YtfejlokinopjbaaDescP1
import Derived.Test.YtfejlokinopjbaaDescAct
namespace Go.Proofs.Ytfejlokinopjbaa
open Go Go.RowKit
set_option linter.unusedVariables false

theorem among6' (n : Int) : among n 6 = 5 ∨ ¬ among n 6 = 5 := by omega

/-- A clone beside the document's table. -/
theorem Twin.clone {w wr w' : World} {base b c b' : Nat} {v u v' : Value} {t s : TabM} (h : Twin w base b c v u t s wr) (hT : TabAt w' wr.heap.size b' v' t) (hU : Upd [] wr w') : Twin w base b' c v' u t s w' := by
  have hl := h.ref.lt
  have hb := h.tab.lt
  have hbs := h.tab.base
  refine { tab := hT.mono (by omega), ref := h.ref.upd hU (by simp) (by simp), bc := ?_, vc := fun q hq => ?_, ub := fun q hq => ⟨?_, fun hq' => ?_⟩, upd := h.upd.trans_same hU, hb := h.hb }
  · have := hT.base; omega
  · have := (hT.vlt q hq).1; omega
  · have := (h.ref.vlt q hq).2; have := hT.base; omega
  · have := (h.ref.vlt q hq).2; have := (hT.vlt q hq').1; omega

/-- The old table goes on beside both. -/
theorem Twin.old {w w1 w' : World} {base b c base2 b2 : Nat} {v u v2 : Value} {t s t2 t2' : TabM} (h : Twin w base b c v u t s w1) (hp : TabPost w1 base2 b2 v2 t2' w') (hT : TabAt w1 base2 b2 v2 t2) (hb : w.heap.size ≤ base2)
    (hap : ∀ q, q ∈ b2 :: v2.ownBlock.toList → q ≠ b ∧ q ≠ c ∧ v.ownBlock ≠ some q ∧ u.ownBlock ≠ some q) : Twin w base b c v u t s w' :=
  h.apart hp.2 (fun q hq => by
    obtain ⟨h1, h2, h3, h4⟩ := hap q hq
    refine ⟨h1, h2, h3, h4, ?_⟩
    rcases List.mem_cons.1 hq with h' | h'
    · subst h'; have := hT.base; omega
    · have := (hT.vlt q (mem_ownD h')).1; omega)

set_option maxHeartbeats 2000000 in
set_option maxRecDepth 100000 in
theorem descPlays_law (w : World) (entries : Int) (a1 : Option Addr) (len1 cap1 : Nat) (h1 : ActRow w a1 len1) (hl1 : len1 ≤ 9223372036854775807) :
    Calls Try.prog 5 #[.int .i64 entries, .slice a1 len1 cap1] w (Fine w (.bool true)) := by
  obtain ⟨hl40, h1⟩ := h1
  by_cases hsz : entries < 0 ∨ 4096 < entries
  · go_enter Try.func5, Try.ntmps5
    go_wp2_with fail
    refine (tab_new_bad entries _ hsz).mono ?_
    rintro e w' ⟨rfl, rfl⟩
    go_wp2_with fail
    refine (rt_new_bad entries _ hsz).mono ?_
    rintro e w' ⟨rfl, rfl⟩
    go_wp2_with fail
    go_ret
    exact ⟨rfl, Upd.refl _ _⟩
  · obtain ⟨n, rfl⟩ : ∃ n : Nat, entries = n := ⟨entries.toNat, by omega⟩
    go_enter Try.func5, Try.ntmps5
    go_wp2_with fail
    refine (tab_new n _ (by omega)).mono ?_
    rintro e w1 ⟨b, v, rfl, hT, k1⟩
    go_wp2_with fail
    refine (rt_new n _ (by omega)).mono ?_
    rintro e w2 ⟨u, rfl, hR, k2⟩
    have hst : Twin w w.heap.size b w1.heap.size v u (TabM.new n) (TabM.new n) w2 := by
      have hs := k1.size
      have hbl := hT.lt
      refine { tab := hT.upd k2 (by simp) (by simp), ref := hR.mono hs, bc := by omega, vc := fun q hq => by have := (hT.vlt q hq).2; omega, ub := fun q hq => ⟨by have := (hR.vlt q hq).1; omega, fun hq' => by have := (hR.vlt q hq).1; have := (hT.vlt q hq').2; omega⟩, upd := k1.trans_same k2, hb := Nat.le_refl _ }
    clear hT hR k1 k2 hsz
    generalize w1.heap.size = c at *
    generalize TabM.new n = t0 at *
    go_wp2_with fail
    go_loopw [5, 9] (fun p i wr => ∃ k : Nat, k ≤ len1 ∧ i = .int .i64 k ∧ ∃ b v t, p = .pointer (some ⟨b, 0, none⟩) ∧ Twin w w.heap.size b c v u t t wr) (fun _ i _ => len1 - (intOf i).toNat)
    case atStart => exact ⟨0, Nat.zero_le _, rfl, _, _, _, rfl, hst⟩
    case round =>
      clear hst
      obtain ⟨k, hk, rfl, b, v, t, rfl, hW⟩ := hrel
      by_cases hlt : k < len1
      · obtain ⟨x, kd, ix, gen, kind, num, rfl, x0, x1, x2, x3, x4⟩ := h1 k hlt
        clear h1
        have y0 : wr.cell? (x.add (k * 5)) = some (.int .i64 kd) := by rw [hW.upd.cell (World.block_lt_of_cell? _ _ x0) (by simp)]; exact x0
        have y1 : wr.cell? ⟨(x.add (k * 5)).block, (x.add (k * 5)).off + 1, none⟩ = some (.int .i64 ix) := by rw [hW.upd.cell (World.block_lt_of_cell? _ _ x1) (by simp)]; exact x1
        have y2 : wr.cell? ⟨(x.add (k * 5)).block, (x.add (k * 5)).off + 2, none⟩ = some (.int .i64 gen) := by rw [hW.upd.cell (World.block_lt_of_cell? _ _ x2) (by simp)]; exact x2
        have y3 : wr.cell? ⟨(x.add (k * 5)).block, (x.add (k * 5)).off + 3, none⟩ = some (.int .i64 kind) := by rw [hW.upd.cell (World.block_lt_of_cell? _ _ x3) (by simp)]; exact x3
        have y4 : wr.cell? ⟨(x.add (k * 5)).block, (x.add (k * 5)).off + 4, none⟩ = some (.int .i64 num) := by rw [hW.upd.cell (World.block_lt_of_cell? _ _ x4) (by simp)]; exact x4
        go_wp2_with fail
        refine (among_any kd 6 _ (by decide) (by decide)).mono ?_
        rintro e w' ⟨rfl, rfl⟩
        have hm := among6' kd
        generalize among kd 6 = am at *
        rcases hm with rfl | hm
        case' inl =>
          have hCl := tab_clone hW.tab
          clear y0 y3 y4
          go_wp2_with fail
          refine hCl.mono ?_
          rintro e w3 ⟨b', v', rfl, hT', k3⟩
          have hW3 := hW.clone hT' k3
          have hO3 := hW.tab.upd k3 (by simp) (by simp)
          have hap : ∀ q, q ∈ b :: v.ownBlock.toList → q ≠ b' ∧ q ≠ c ∧ v'.ownBlock ≠ some q ∧ u.ownBlock ≠ some q := fun q hq => by
            have hql : q < wr.heap.size := by
              rcases List.mem_cons.1 hq with h' | h'
              · subst h'; exact hW.tab.lt
              · exact (hW.tab.vlt q (mem_ownD h')).2
            refine ⟨by have := hT'.base; omega, ?_, fun h => by have := (hT'.vlt q h).1; omega, ?_⟩
            · rcases List.mem_cons.1 hq with h' | h'
              · subst h'; exact hW.bc
              · exact hW.vc q (mem_ownD h')
            · intro h
              rcases List.mem_cons.1 hq with h' | h'
              · exact (hW.ub q h).1 h'
              · exact (hW.ub q h).2 (mem_ownD h')
          have z1 : w3.cell? ⟨(x.add (k * 5)).block, (x.add (k * 5)).off + 1, none⟩ = some (.int .i64 ix) := by rw [k3.cell (World.block_lt_of_cell? _ _ y1) (by simp)]; exact y1
          have z2 : w3.cell? ⟨(x.add (k * 5)).block, (x.add (k * 5)).off + 2, none⟩ = some (.int .i64 gen) := by rw [k3.cell (World.block_lt_of_cell? _ _ y2) (by simp)]; exact y2
          have hC3 := tab_close ix gen hO3
          clear hCl y1 y2 k3 hT' hW
          go_wp2_with fail
          refine hC3.mono ?_
          rintro e w4 ⟨rfl, hp⟩
          have hW4 := hW3.old hp hO3 (Nat.le_refl _) hap
          have hO4 := hp.1
          clear hp hW3 hO3 hC3 z1 z2
          go_wp2_with fail
          refine (tab_open 1 2 hO4).mono ?_
          rintro e w5 ⟨rfl, hp⟩
          have hW5 := hW4.old hp hO4 (Nat.le_refl _) hap
          clear hp hW4 hO4 hap
          generalize t = t5 at *
          generalize b' = b5 at *
          generalize v' = v5 at *
        case' inr =>
          have hP := play_ok kd ix gen kind num hW
          clear hW
          go_wp2_with fail
          refine hP.mono ?_
          rintro e w5 ⟨rfl, t5, hW5⟩
          generalize b = b5 at *
          generalize v = v5 at *
          clear hP y0 y1 y2 y3 y4
        all_goals
          have hL := tab_live hW5.tab
          go_wp2_with fail
          refine hL.mono ?_
          rintro e w6 ⟨lv, rfl, hlv, k6⟩
          have hW6 := hW5.same k6
          have hR := rt_live hW6.ref
          have hbl : b5 < w5.heap.size ∧ c < w5.heap.size ∧ (∀ q, v5.ownBlock = some q → q < w5.heap.size) ∧ (∀ q, u.ownBlock = some q → q < w5.heap.size) := ⟨hW5.tab.lt, hW5.ref.lt, fun q hq => (hW5.tab.vlt q hq).2, fun q hq => (hW5.ref.vlt q hq).2⟩
          have hws : w.heap.size ≤ w5.heap.size := hW5.upd.size
          clear hL hW5
          go_wp2_with fail
          refine hR.mono ?_
          rintro e w7 ⟨lu, rfl, hlu, k7⟩
          have hW7 := hW6.same k7
          have hlv7 := hlv.upd k7 (by simp)
          have hS := same_ok hlv7 hlu rfl
          clear hR hW6 hlv
          go_wp2_with fail
          refine hS.mono ?_
          rintro e w8 ⟨rfl, k8⟩
          have hW8 := hW7.same k8
          have hlv8 := hlv7.upd k8 (by simp)
          have hUs := tab_used hW8.tab
          rw [← TabM.live_used] at hUs
          clear hS hW7 hlv7 hlu k7 k8
          obtain ⟨al, cl, rfl⟩ := hlv8.shape
          go_wp2_with fail
          refine hUs.mono ?_
          rintro e w' ⟨rfl, rfl⟩
          have hlen := t5.liveTo_le t5.length
          have hsm := hW8.tab.small
          have hlen' : t5.live.length ≤ t5.length := hlen
          clear hUs
          generalize hxs : hcells t5.live = xs at *
          generalize t5.live.length = L at *
          go_wp2_with fail
          go_loopw [12] (fun i wr => ∃ j : Nat, j ≤ L ∧ i = .int .i64 j ∧ ∃ xs', Own wr w5.heap.size 30 2 (.slice al L cl) L xs' ∧ Twin w w.heap.size b5 c v5 u t5 t5 wr) (fun i _ => L - (intOf i).toNat)
          case atStart => exact ⟨0, Nat.zero_le _, rfl, _, hlv8, hW8⟩
          case round =>
            clear hlv8 hW8
            obtain ⟨j, hj, rfl, xs', hown, hWj⟩ := hrel
            by_cases hjL : j < L
            · obtain ⟨g, off, cap', pre, rest, hv, hgb, _, _, _, _, _⟩ := hown.blk (by intro h; injection h with _ h; omega)
              cases hv
              have hxl := hown.1
              have hc := hown.cell rfl (List.getElem?_eq_getElem (show j * 2 + 1 < xs'.length by omega))
              rw [← Nat.add_assoc] at hc
              have hf := hown.frozen (off + j * 2 + 1)
              have eadd : (⟨g, off, none⟩ : Addr).add (j * 2) = ⟨g, off + j * 2, none⟩ := addr_add _ _ _
              have hset := hown.set (j * 2 + 1) (.int .i64 (-7)) (by omega)
              rw [← Nat.add_assoc] at hset
              have hWs := hWj.apart ((Upd.refl [g] _).setCell (a := ⟨g, off + j * 2 + 1, none⟩) (Or.inl (by simp)) (.int .i64 (-7))) (fun q hq => by
                simp at hq
                subst hq
                obtain ⟨q1, q2, q3, q4⟩ := hbl
                refine ⟨by omega, by omega, fun h => ?_, fun h => ?_, by omega⟩
                · have := q3 _ h; omega
                · have := q4 _ h; omega)
              clear hown hWj
              go_wp2_with fail
              go_roundw
              case rel => exact ⟨j + 1, hjL, by go_num, _, hset, hWs⟩
              case measure => simp [intOf]; omega
            · obtain rfl : j = L := by omega
              go_wp2_with fail
              go_roundw
              case rel => exact ⟨k + 1, hlt, by go_num, _, _, _, rfl, hWj⟩
              case measure => simp [intOf]; omega
      · obtain rfl : k = len1 := by omega
        go_wp2_with fail
        refine (desc_works _).mono ?_
        rintro e w3 ⟨rfl, k3⟩
        go_wp2_with fail
        go_ret
        exact ⟨rfl, hW.upd.trans_same k3⟩

end Go.Proofs.Ytfejlokinopjbaa
