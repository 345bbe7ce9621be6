/- The walk of the port's Dial. -/
import Derived.Test.YtnbhgfnjnccakaaPort16
namespace Go.Proofs.Ytnbhgfnjnccakaa
open Go Go.RowKit
set_option linter.unusedVariables false

def DestM.bad (d : DestM) : Prop := d.port < 1 ∨ 65535 < d.port ∨ d.name.toList ≠ []
/-- The least idle server (the number of all: none). -/
def PortM.dialIx (p : PortM) : Nat := p.clients + (p.ends.drop p.clients).findIdx (fun e => e.st == 0)
def PortM.dialled (p : PortM) (d : DestM) : PortM := (p.setEnd p.dialIx (EndM.reset 2)).told ⟨1, p.dialIx, .empty, d⟩
def destV (d : DestM) : Value := .agg #[.int .u8 d.a, .int .u8 d.b, .int .u8 d.c, .int .u8 d.d, .string d.name, .int .i64 d.port]

theorem dialIx_eq {p : PortM} {k : Nat} {x : EndM} (hc : p.clients ≤ k) (hx : p.ends[k]? = some x) (hs : x.st = 0) (hall : ∀ j y, p.clients ≤ j → j < k → p.ends[j]? = some y → y.st ≠ 0) : p.dialIx = k := by
  obtain ⟨hk, hkx⟩ := List.getElem?_eq_some_iff.1 hx
  unfold PortM.dialIx
  have hl : k - p.clients < (p.ends.drop p.clients).length := by rw [List.length_drop]; omega
  have : (p.ends.drop p.clients).findIdx (fun e => e.st == 0) = k - p.clients := by
    refine (List.findIdx_eq hl).2 ⟨?_, fun j hj => ?_⟩
    · have : (p.ends.drop p.clients)[k - p.clients] = x := by
        rw [List.getElem_drop]
        have e : p.clients + (k - p.clients) = k := by omega
        rw [← hkx]
        congr 1
      rw [this, hs]; rfl
    · have h1 : (p.ends.drop p.clients)[j] = p.ends[p.clients + j]'(by omega) := List.getElem_drop ..
      rw [h1]
      have := hall (p.clients + j) _ (by omega) (by omega) (List.getElem?_eq_getElem (by omega))
      simpa using this
  omega

section
variable {w w1 : World} {base b : Nat} {l : PLay} {p : PortM}

set_option maxHeartbeats 1000000 in
set_option maxRecDepth 100000 in
theorem pt_dial_ok (d : DestM) (h : PortAt w base b l p) (hp1 : 1 ≤ d.port) (hp2 : d.port ≤ 65535) (hn : d.name = .empty) (hlen : p.outs.length < 1900000000000) (hfree : p.dialIx < p.ends.length) :
    Calls Try.prog 52 #[.pointer (some ⟨b, 0, none⟩), destV d] w fun e w' => e = .returned (.tuple #[.int .i64 (p.dialIx : Nat), .int .i64 0]) ∧ PPost w base b l (p.dialled d) w' := by
  obtain ⟨da, db, dc, dd, name, port⟩ := d
  have hn' : name = ⟨#[]⟩ := hn
  subst hn'
  clear hn
  have hp1 : 1 ≤ port := hp1
  have hp2 : port ≤ 65535 := hp2
  have hX := blk_new' w 49 #[.int .u8 da, .int .u8 db, .int .u8 dc, .int .u8 dd, .string ⟨#[]⟩, .int .i64 port]
  have k1 : Upd [] w (w.alloc (.cells #[.int .u8 da, .int .u8 db, .int .u8 dc, .int .u8 dd, .string ⟨#[]⟩, .int .i64 port] 49)) := (Upd.refl _ _).alloc _
  have h1 := h.upd k1 (by simp)
  have his := pt_is h1
  have x4 := hX.cell (i := 4) rfl
  have x5 := hX.cell (i := 5) rfl
  have b0 := h1.blk.cell (i := 0) rfl
  have b1 := h1.blk.cell (i := 1) rfl
  obtain ⟨ao, co, hvl⟩ := h.vlShape
  rw [hvl] at b1
  have hsm := h.small
  have hcl := h.cl
  have d1 : ¬ port < 1 := by omega
  have d2 : ¬ 65535 < port := by omega
  show Calls Try.prog 52 #[.pointer (some ⟨b, 0, none⟩), .agg #[.int .u8 da, .int .u8 db, .int .u8 dc, .int .u8 dd, .string ⟨#[]⟩, .int .i64 port]] w _
  go_enter Try.func52, Try.ntmps52
  go_wp2_with (go_at_call 55; refine his.mono ?_; rintro e w' ⟨rfl, rfl⟩)
  generalize hXe : w.heap.size = X at *
  generalize w.alloc (.cells #[.int .u8 da, .int .u8 db, .int .u8 dc, .int .u8 dd, .string ⟨#[]⟩, .int .i64 port] 49) = w1 at *
  go_loopw [6] (fun i wr => ∃ k : Nat, p.clients ≤ k ∧ k ≤ p.ends.length ∧ i = .int .i64 k ∧ (∀ j y, p.clients ≤ j → j < k → p.ends[j]? = some y → y.st ≠ 0) ∧ wr = w1) (fun i _ => p.ends.length - (intOf i).toNat)
  case atStart => exact ⟨p.clients, Nat.le_refl _, hcl, rfl, fun j y h1 h2 => by omega, rfl⟩
  case round =>
    obtain ⟨k, hkc, hk, rfl, hall, rfl⟩ := hrel
    by_cases hlt : k < p.ends.length
    · obtain ⟨x, hx⟩ : ∃ x, p.ends[k]? = some x := ⟨p.ends[k], List.getElem?_eq_getElem hlt⟩
      obtain ⟨g, off, cap, hv, hg, _⟩ := h1.cells hx
      rw [hvl] at hv
      cases hv
      obtain ⟨c0, c1, c2, c3, c4, c5, hfz⟩ := h1.cellsAt hx hvl
      have eadd : (⟨g, off, none⟩ : Addr).add (k * 6) = ⟨g, off + k * 6, none⟩ := addr_add _ _ _
      clear hfz
      by_cases hst : x.st = 0
      · have hix := dialIx_eq hkc hx hst hall
        have hA := pt_again 2 (by decide) h1 hx hvl
        rw [hst] at c1
        clear hall
        go_wp2_with fail
        refine hA.mono ?_
        rintro e w3 ⟨rfl, hp⟩
        have hX3 := hX.upd hp.2 (fun hq => by have := h.lt _ hq; omega)
        have y0 := hX3.cell (i := 0) rfl
        have y1 := hX3.cell (i := 1) rfl
        have y2 := hX3.cell (i := 2) rfl
        have y3 := hX3.cell (i := 3) rfl
        have y4 := hX3.cell (i := 4) rfl
        have y5 := hX3.cell (i := 5) rfl
        have hput := pt_put ⟨1, k, ⟨#[]⟩, da, db, dc, dd, ⟨#[]⟩, port⟩ hp.1 hlen
        clear hA x4 x5 b0 b1 c0 c1 c2 c3 c4 c5
        go_wp2_with fail
        refine hput.mono ?_
        rintro e w4 ⟨rfl, l', _, hP, hU4, hW4⟩
        go_wp2_with fail
        go_ret2
        refine ⟨by rw [hix]; rfl, l', ?_, ((k1.mono (by simp)).trans_same hp.2).trans_same hU4, fun q hq => ?_⟩
        · unfold PortM.dialled
          rw [hix]
          exact hP
        · rcases hW4 q hq with h' | h'
          · exact Or.inl h'
          · have := k1.size; have := hp.2.size; exact Or.inr (by omega)
      · have hst' : ¬ (x.st : Int) = 0 := by omega
        have hb0 : ((x.st : Int) == 0) = false := by simp; omega
        go_wp2_with fail
        go_roundw
        case rel => exact ⟨k + 1, by omega, hlt, by go_num, fun j y h1 h2 hy => by
          by_cases hjk : j = k
          · subst hjk; rw [hx] at hy; cases hy; exact hst
          · exact hall j y h1 (by omega) hy, by first | rfl | trivial⟩
        case measure => simp [intOf]; omega
    · exfalso
      have hkl : k = p.ends.length := by omega
      unfold PortM.dialIx at hfree
      have hl : (p.ends.drop p.clients).findIdx (fun e => e.st == 0) < (p.ends.drop p.clients).length := by rw [List.length_drop]; omega
      have := List.findIdx_getElem (w := hl)
      rw [List.getElem_drop] at this
      have h2 := hall (p.clients + (p.ends.drop p.clients).findIdx (fun e => e.st == 0)) _ (by omega) (by omega) (List.getElem?_eq_getElem (by omega))
      simp at this
      exact h2 this
end

end Go.Proofs.Ytnbhgfnjnccakaa
