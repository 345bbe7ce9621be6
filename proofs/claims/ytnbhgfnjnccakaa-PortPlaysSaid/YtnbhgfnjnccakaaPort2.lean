/- The walks of the port's own words put and again, and of Outs; what they do to the memory. -/
import Derived.Test.YtnbhgfnjnccakaaPort1
namespace Go.Proofs.Ytnbhgfnjnccakaa
open Go Go.RowKit
set_option linter.unusedVariables false

theorem mem_ownP {v : Value} {q : Nat} (h : q ∈ v.ownBlock.toList) : v.ownBlock = some q := by
  cases hv : v.ownBlock with
  | none => rw [hv] at h; cases h
  | some x => rw [hv] at h; simp at h; rw [h]

theorem Try.infoOut : (Try.prog.info? 51).map (fun i => (i.zero, i.size, i.bytes)) = some (some (outV ⟨0, 0, .empty, DestM.zero⟩), 10, 72) := by kernel_rfl

def PSame (w : World) (base b : Nat) (l : PLay) (p' : PortM) (w' : World) : Prop := PortAt w' base b l p' ∧ Upd l.foot w w'

/-- What put leaves: the endpoints lie where they lay. -/
def PPostV (w : World) (base b : Nat) (l : PLay) (p' : PortM) (w' : World) : Prop := ∃ l', l'.vl = l.vl ∧ PortAt w' base b l' p' ∧ Upd l.foot w w' ∧ Within w l'.foot l.foot

section
variable {w w1 : World} {base b : Nat} {l : PLay} {p : PortM}

theorem PSame.post {p' : PortM} {w' : World} (h : PSame w base b l p' w') : PPost w base b l p' w' := ⟨l, h.1, h.2, Within.refl _ _⟩
theorem PSame.trans {p' p'' : PortM} {w' w'' : World} (h : PSame w base b l p' w') (h' : PSame w' base b l p'' w'') : PSame w base b l p'' w'' := ⟨h'.1, h.2.trans_same h'.2⟩
theorem PSame.refl (h : PortAt w base b l p) : PSame w base b l p w := ⟨h, Upd.refl _ _⟩

/-- The layout behind new outputs. -/
def PLay.reout (l : PLay) (n : Nat) (vo' : Value) : PLay := { l with vo := vo', tag := fun q => if n ≤ q then 3 else l.tag q, foot := vo'.ownBlock.toList ++ l.foot }

theorem PortAt.reout (h : PortAt w base b l p) {vo' : Value} {outs' : List OutM} {w2 : World} (hu : Upd l.vo.ownBlock.toList w w1) (hbs : base ≤ w.heap.size) (hown : Own w1 base 51 10 vo' outs'.length (outsC outs')) (hblk : ∀ q, vo'.ownBlock = some q → l.vo.ownBlock = some q ∨ w.heap.size ≤ q)
    (hw2 : w2 = w1.setCell ⟨b, 3, none⟩ vo') : PortAt w2 base b (l.reout w.heap.size vo') { p with outs := outs' } ∧ Upd l.foot w w2 ∧ Within w (l.reout w.heap.size vo').foot l.foot := by
  subst hw2
  have k : ∀ n q, n ≠ 3 → l.has base n q → q ∉ l.vo.ownBlock.toList := fun n q hn hq hq' => hn (by rw [← hq.2.1, ← (h.to q (mem_ownP hq')).2.1])
  have hlt : ∀ n q, l.has base n q → q < w.heap.size := fun n q hq => h.lt q hq.2.2
  have hs : Upd [b] w1 (w1.setCell ⟨b, 3, none⟩ vo') := (Upd.refl _ _).setCell (Or.inl (by simp)) _
  have kb : ∀ n q, n ≠ 0 → l.has base n q → q ∉ [b] := fun n q hn hq hq' => by simp at hq'; subst hq'; exact hn (by rw [← hq.2.1, ← h.tb.2.1])
  have hh : ∀ n q, l.has base n q → (l.reout w.heap.size vo').has base n q := fun n q hq => ⟨hq.1, by show (if _ then _ else _) = _; rw [if_neg (by have := hlt n q hq; omega)]; exact hq.2.1, by show q ∈ _ ++ _; simp [hq.2.2]⟩
  have hob : ∀ q, vo'.ownBlock = some q → q ≠ b := fun q hq e => by
    rcases hblk q hq with h' | h'
    · exact (h.to q h').ne h.tb (by decide) e
    · have := hlt _ _ h.tb; omega
  obtain ⟨xs, h1, h2⟩ := h.ends
  obtain ⟨ys, h3, h4⟩ := h.box
  refine ⟨{ blk := ?_, ends := ⟨xs, ?_, h2⟩, rings := fun i e hi => ?_, box := ⟨ys, ?_, fun i bs hi hsz => ?_⟩, outs := ?_, tb := hh _ _ h.tb, tl := fun q hq => hh _ _ (h.tl q hq), tx := fun q hq => hh _ _ (h.tx q hq), to := fun q hq => ?_, tr := fun i hi => ⟨hh _ _ (h.tr i hi).1, hh _ _ (h.tr i hi).2⟩, small := h.small, cl := h.cl, fine := h.fine, bx := h.bx, lt := fun q hq => ?_, ge := fun q hq => ?_ }, ?_, ?_⟩
  · exact ((h.blk.upd hu (k _ _ (by decide) h.tb)).set 3 vo').eq rfl
  · exact (h1.upd hu (fun q hq => k _ _ (by decide) (h.tl q hq))).upd hs (fun q hq => kb _ _ (by decide) (h.tl q hq))
  · have hil := (List.getElem?_eq_some_iff.1 hi).1
    exact ((h.rings i e hi).upd hu (k _ _ (by omega) (h.tr i hil).1) (k _ _ (by omega) (h.tr i hil).2)).upd hs (kb _ _ (by omega) (h.tr i hil).1) (kb _ _ (by omega) (h.tr i hil).2)
  · exact (h3.upd hu (fun q hq => k _ _ (by decide) (h.tx q hq))).upd hs (fun q hq => kb _ _ (by decide) (h.tx q hq))
  · obtain ⟨v, e1, e2, e3⟩ := h4 i bs hi hsz
    exact ⟨v, e1, (e2.upd hu (fun q hq => k _ _ (by decide) (e3 q hq))).upd hs (fun q hq => kb _ _ (by decide) (e3 q hq)), fun q hq => hh _ _ (e3 q hq)⟩
  · exact hown.upd hs (fun q hq => by simp; exact hob q hq)
  · have hq' : vo'.ownBlock = some q := hq
    rcases hblk q hq' with h' | h'
    · exact hh _ _ (h.to q h')
    · refine ⟨by omega, ?_, ?_⟩
      · show (if _ then _ else _) = _; rw [if_pos h']
      · show q ∈ _ ++ _; simp [hq']
  · have hq' : q ∈ vo'.ownBlock.toList ++ l.foot := hq
    have hsz := hs.size
    rcases List.mem_append.1 hq' with h' | h'
    · have := (hown.lt q (mem_ownP h')).2; omega
    · have := h.lt q h'; have := hu.size; omega
  · have hq' : q ∈ vo'.ownBlock.toList ++ l.foot := hq
    rcases List.mem_append.1 hq' with h' | h'
    · exact (hown.lt q (mem_ownP h')).1
    · exact h.ge q h'
  · exact (hu.mono (fun q hq => (h.to q (mem_ownP hq)).2.2)).trans_same (hs.mono (fun q hq => by simp at hq; subst hq; exact h.tb.2.2))
  · intro q hq
    have hq' : q ∈ vo'.ownBlock.toList ++ l.foot := hq
    rcases List.mem_append.1 hq' with h' | h'
    · rcases hblk q (mem_ownP h') with h'' | h''
      · exact Or.inl (h.to q h'').2.2
      · exact Or.inr h''
    · exact Or.inl h'

set_option maxHeartbeats 1000000 in
set_option maxRecDepth 100000 in
theorem pt_put (o : OutM) (h : PortAt w base b l p) (hlen : p.outs.length < 1900000000000) :
    Calls Try.prog 64 #[.pointer (some ⟨b, 0, none⟩), outV o] w fun e w' => e = .returned (.tuple #[]) ∧ PPostV w base b l { p with outs := p.outs ++ [o] } w' := by
  obtain ⟨kd, en, data, da, db, dc, dd, name, port⟩ := o
  obtain ⟨ob, hob⟩ : ∃ o : OutM, o = ⟨kd, en, data, da, db, dc, dd, name, port⟩ := ⟨_, rfl⟩
  have hX := blk_new' w 51 #[.int .i64 0, .int .i64 kd, .int .i64 en, .string data, .int .u8 da, .int .u8 db, .int .u8 dc, .int .u8 dd, .string name, .int .i64 port]
  have k1 : Upd [] w (w.alloc (.cells #[.int .i64 0, .int .i64 kd, .int .i64 en, .string data, .int .u8 da, .int .u8 db, .int .u8 dc, .int .u8 dd, .string name, .int .i64 port] 51)) := (Upd.refl _ _).alloc _
  have h1 := h.upd k1 (by simp)
  have hbs := h.tb.1
  have hbl := h.blk.lt
  have hXb : w.heap.size ≠ b := by omega
  obtain ⟨ao, co, hvo⟩ := h.outs.shape
  have hfw : ∀ q, l.vo.ownBlock = some q → q < w.heap.size := fun q hq => (h.outs.lt q hq).2
  show Calls Try.prog 64 #[.pointer (some ⟨b, 0, none⟩), .agg #[.int .i64 0, .int .i64 kd, .int .i64 en, .string data, .int .u8 da, .int .u8 db, .int .u8 dc, .int .u8 dd, .string name, .int .i64 port]] w _
  go_enter Try.func64, Try.ntmps64
  go_wp2_with fail
  generalize hXe : w.heap.size = X at *
  generalize w.alloc (.cells #[.int .i64 0, .int .i64 kd, .int .i64 en, .string data, .int .u8 da, .int .u8 db, .int .u8 dc, .int .u8 dd, .string name, .int .i64 port] 51) = w1 at *
  have hb1 := h1.blk
  obtain ⟨C, hC⟩ : ∃ C : World → Prop, C = fun w' => w'.cell? ⟨b, 3, none⟩ = some l.vo ∧ Blk w' X 51 (outC ob) := ⟨_, rfl⟩
  have hCo : ∀ w', C w' → w'.cell? ⟨b, 3, none⟩ = some l.vo ∧ Blk w' X 51 (outC ob) := fun w' h => by rw [hC] at h; exact h
  have hCi : ∀ w', w'.cell? ⟨b, 3, none⟩ = some l.vo → Blk w' X 51 (outC ob) → C w' := fun w' h1 h2 => by rw [hC]; exact ⟨h1, h2⟩
  have hC0 : C w1.drew := hCi _ (hb1.cell (i := 3) rfl) (by rw [hob]; exact hX)
  have cc : ∀ x : { w' // C w' }, x.1.cell? ⟨b, 3, none⟩ = some (.slice ao p.outs.length co) := fun y => by obtain ⟨y, h⟩ := y; rw [← hvo]; exact (hCo _ h).1
  have c0 : ∀ x : { w' // C w' }, x.1.cell? ⟨X, 0, none⟩ = some (.int .i64 0) := fun y => by obtain ⟨y, h⟩ := y; exact (hCo _ h).2.cell (i := 0) rfl
  have c1 : ∀ x : { w' // C w' }, x.1.cell? ⟨X, 1, none⟩ = some (.int .i64 kd) := fun y => by obtain ⟨y, h⟩ := y; exact (hCo _ h).2.cell (i := 1) (by rw [hob]; rfl)
  have c2 : ∀ x : { w' // C w' }, x.1.cell? ⟨X, 2, none⟩ = some (.int .i64 en) := fun y => by obtain ⟨y, h⟩ := y; exact (hCo _ h).2.cell (i := 2) (by rw [hob]; rfl)
  have c3 : ∀ x : { w' // C w' }, x.1.cell? ⟨X, 3, none⟩ = some (.string data) := fun y => by obtain ⟨y, h⟩ := y; exact (hCo _ h).2.cell (i := 3) (by rw [hob]; rfl)
  have c4 : ∀ x : { w' // C w' }, x.1.cell? ⟨X, 4, none⟩ = some (.int .u8 da) := fun y => by obtain ⟨y, h⟩ := y; exact (hCo _ h).2.cell (i := 4) (by rw [hob]; rfl)
  have c5 : ∀ x : { w' // C w' }, x.1.cell? ⟨X, 5, none⟩ = some (.int .u8 db) := fun y => by obtain ⟨y, h⟩ := y; exact (hCo _ h).2.cell (i := 5) (by rw [hob]; rfl)
  have c6 : ∀ x : { w' // C w' }, x.1.cell? ⟨X, 6, none⟩ = some (.int .u8 dc) := fun y => by obtain ⟨y, h⟩ := y; exact (hCo _ h).2.cell (i := 6) (by rw [hob]; rfl)
  have c7 : ∀ x : { w' // C w' }, x.1.cell? ⟨X, 7, none⟩ = some (.int .u8 dd) := fun y => by obtain ⟨y, h⟩ := y; exact (hCo _ h).2.cell (i := 7) (by rw [hob]; rfl)
  have c8 : ∀ x : { w' // C w' }, x.1.cell? ⟨X, 8, none⟩ = some (.string name) := fun y => by obtain ⟨y, h⟩ := y; exact (hCo _ h).2.cell (i := 8) (by rw [hob]; rfl)
  have c9 : ∀ x : { w' // C w' }, x.1.cell? ⟨X, 9, none⟩ = some (.int .i64 port) := fun y => by obtain ⟨y, h⟩ := y; exact (hCo _ h).2.cell (i := 9) (by rw [hob]; rfl)
  haveI : Nonempty { w' // C w' } := ⟨⟨_, hC0⟩⟩
  refine wp_region_fxl C [6, 7] [10] [4, 5] rfl (by kernel_rfl) hC0 (fun M => ?_)
  have h2 : PortAt w1.drew base b l p := h1.drewN 1
  have k2 : Upd [] w w1.drew := k1.drew
  have hs1 : X < w1.drew.heap.size := hX.lt
  clear h1 hb1 hX k1
  generalize w1.drew = w2 at *
  refine wpFx_pure rfl (fun K hK => ?_); go_simp; refine hK _ ?_; clear hK K
  refine wpFx_pure rfl (fun K hK => ?_); go_simp; refine hK _ ?_; clear hK K
  refine wpFx_pure rfl (fun K hK => ?_); go_simp; refine hK _ ?_; clear hK K
  refine wpFx_pure rfl (fun K hK => ?_); go_simp; refine hK _ ?_; clear hK K
  refine wpFx_load rfl rfl (fun K hK => ?_); go_simp; refine hK _ ?_; clear hK K
  refine wpFx_load rfl rfl (fun K hK => ?_); go_simp; refine hK _ ?_; clear hK K
  refine wpFx_es rfl rfl (fun K hK => ?_); go_simp
  have k3 : Upd [] w2 (w2.alloc (.cells #[.int .i64 0, .int .i64 kd, .int .i64 en, .string data, .int .u8 da, .int .u8 db, .int .u8 dc, .int .u8 dd, .string name, .int .i64 port] 51)) := (Upd.refl _ _).alloc _
  have hN := blk_new' w2 51 #[.int .i64 0, .int .i64 kd, .int .i64 en, .string data, .int .u8 da, .int .u8 db, .int .u8 dc, .int .u8 dd, .string name, .int .i64 port]
  refine hK _ _ (hCi _ (by rw [k3.cell (World.block_lt_of_cell? _ _ (hCo _ hC0).1) (by simp)]; exact (hCo _ hC0).1) ((hCo _ hC0).2.upd k3 (by simp))) ?_
  clear hK K
  have hXB := (hCo _ hC0).2
  have h3 := h2.upd k3 (by simp)
  have k23 := k2.trans_same k3
  generalize hYe : w2.heap.size = Y at *
  generalize w2.alloc (.cells #[.int .i64 0, .int .i64 kd, .int .i64 en, .string data, .int .u8 da, .int .u8 db, .int .u8 dc, .int .u8 dd, .string name, .int .i64 port] 51) = w3 at *
  have hXb3 : Blk w3 X 51 (outC ob) := hXB.upd k3 (by simp)
  have hown3 := h3.outs
  rw [hvo] at hown3
  have hbsz : base ≤ w3.heap.size := by have := h3.blk.lt; omega
  refine wpFx_es rfl rfl (fun K hK => ?_)
  with_reducible refine wp_append_gen (.tmp 8) (.tmp 10) 42 42 rfl 51 (outV ⟨0, 0, .empty, DestM.zero⟩) 10 72 Try.underlying42 Try.infoOut rfl base ?a1 (.slice ao p.outs.length co) p.outs.length (outsC p.outs) rfl ?a2 _ 1 (outC ob) rfl ?a3 ?a4 ?a5 ?a6
  case a1 => exact hbsz
  case a2 => exact hown3
  case a3 => exact Src.ofSlice _ Try.underlying42 ⟨Y, 0, none⟩ _ _ _ (by rw [hob]; rfl) (fun j u hj => by rw [addr_add, Nat.zero_add]; rw [hob] at hj; exact hN.cell hj) (outC_one ob)
  case a4 => unfold maxLen; omega
  case a5 => omega
  case a6 =>
    intro v' w4 hown4 hU4 hblk4 hnil4 hoff4
    have hnb : b ∉ (Value.slice ao p.outs.length co).ownBlock.toList := fun hq => (h3.to b (by rw [hvo]; exact mem_ownP hq)).ne h3.tb (by decide) rfl
    have hnX : X ∉ (Value.slice ao p.outs.length co).ownBlock.toList := fun hq => by
      have := hfw X (by rw [hvo]; exact mem_ownP hq); omega
    have hb4 := h3.blk.upd hU4 hnb
    have cb3 := hb4.cell (i := 3) rfl
    have cf3 := hb4.frozen 3
    refine hK _ _ (hCi _ cb3 (hXb3.upd hU4 hnX)) ?_
    clear hK K
    obtain ⟨ao', co', rfl⟩ := hown4.shape
    have hR := h3.reout (outs' := p.outs ++ [ob]) (w1 := w4) (vo' := .slice ao' (p.outs.length + 1) co') (by rw [hvo]; exact hU4) hbsz (by rw [List.length_append, outsC_append, show outsC [ob] = outC ob by simp [outsC]]; exact hown4) (fun q hq => by rw [hvo]; exact hblk4 q hq) rfl
    clear hown4 hU4 hblk4 hnil4 hoff4 hnb hnX
    go_simp
    refine wpFx_pure rfl (fun K hK => ?_); go_simp; refine hK _ ?_; clear hK K
    refine wpFx_pure rfl (fun K hK => ?_); go_simp; refine hK _ ?_; clear hK K
    refine wpFx_et rfl rfl rfl (fun K hK => ?_); go_simp
    refine hK _ _ ?_; clear hK K
    refine wpFx_nil ?_
    go_wp2_with fail
    go_end0
    refine ⟨rfl, l.reout w3.heap.size (.slice ao' (p.outs.length + 1) co'), rfl, by rw [← hob]; exact hR.1, (k23.mono (by simp)).trans_same hR.2.1, fun q hq => ?_⟩
    rcases hR.2.2 q hq with h' | h'
    · exact Or.inl h'
    · have := k23.size; exact Or.inr (by omega)

end

end Go.Proofs.Ytnbhgfnjnccakaa
