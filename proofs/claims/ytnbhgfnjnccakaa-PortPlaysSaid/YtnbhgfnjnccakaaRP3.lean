/- The walk of the document's port's New: one endpoint behind the other. -/
import Derived.Test.YtnbhgfnjnccakaaRP2
namespace Go.Proofs.Ytnbhgfnjnccakaa
open Go Go.RowKit
set_option linter.unusedVariables false

theorem Try.infoEndR : (Try.prog.info? 120).map (fun i => (i.zero, i.size, i.bytes)) = some (some (.agg #[.int .i64 0, .int .i64 0, .bool false, .bool false, .bool false, .pointer none]), 6, 32) := by kernel_rfl

theorem LayR.push {rb : Nat → Nat} {xs : List Value} {es : List EndM} {B : Nat} {e : EndM} (h : LayR rb xs es) : LayR (fun k => if k = es.length then B else rb k) (xs ++ endR B e) (es ++ [e]) := by
  have hl := h.1
  refine ⟨by simp [endR]; omega, fun i x hi j v hv => ?_⟩
  have hm : j < 6 := (List.getElem?_eq_some_iff.1 hv).1
  by_cases hil : i < es.length
  · rw [List.getElem?_append_left hil] at hi
    have hne : ¬ i = es.length := by omega
    simp only [if_neg hne] at hv
    rw [List.getElem?_append_left (by omega)]
    exact h.2 i x hi j v hv
  · have hle : i = es.length := by
      have := (List.getElem?_eq_some_iff.1 hi).1
      rw [List.length_append] at this; simp at this; omega
    subst hle
    rw [List.getElem?_append_right (Nat.le_refl _), Nat.sub_self] at hi
    cases hi
    simp only [if_true] at hv
    rw [List.getElem?_append_right (by omega), show es.length * 6 + j - xs.length = j by omega]
    exact hv

theorem endR_one (B : Nat) (e : EndM) : ∀ u ∈ endR B e, u.oneCell' = true := by
  intro u hu
  simp [endR] at hu
  rcases hu with rfl | rfl | rfl | rfl | rfl | rfl <;> rfl

section
variable {w w1 w2 w3 : World} {base c : Nat} {L : XLay} {p : PortM}

def XLay.push (L : XLay) (n i B : Nat) (ve' : Value) : XLay := { L with rb := fun k => if k = i then B else L.rb k, rv := fun k => if k = i then .slice none 0 0 else L.rv k, ve := ve', tag := fun q => if n ≤ q then (if q = B then 5 + 2 * i else 1) else L.tag q, foot := B :: (ve'.ownBlock.toList ++ L.foot) }

/-- One more endpoint. -/
theorem RPortAt.push (h : RPortAt w base c L p) {B : Nat} {e : EndM} {xs : List Value} {ve' : Value} (hl : p.ends.length < 128) (hu : Upd [] w w1) (hB : w.heap.size ≤ B) (hR : RefHas w1 base B (.slice none 0 0) p.size []) (hB1 : B < w1.heap.size) (hx : e.xs = []) (hf : e.fine)
    (hlay : LayR L.rb xs p.ends) (hu2 : Upd L.ve.ownBlock.toList w1 w2) (hown : Own w2 base 120 6 ve' (p.ends.length + 1) (xs ++ endR B e)) (hblk : ∀ q, ve'.ownBlock = some q → L.ve.ownBlock = some q ∨ w1.heap.size ≤ q)
    (hw3 : w3 = w2.setCell ⟨c, 2, none⟩ ve') :
    RPortAt w3 base c (L.push w.heap.size p.ends.length B ve') { p with ends := p.ends ++ [e] } ∧ Upd L.foot w w3 ∧ Within w (L.push w.heap.size p.ends.length B ve').foot L.foot := by
  subst hw3
  obtain ⟨ys, h3, h4⟩ := h.box
  have k : ∀ n q, n ≠ 1 → L.has base n q → q ∉ L.ve.ownBlock.toList := fun n q hn hq hq' => hn (by rw [← hq.2.1, ← (h.tl q (mem_ownP hq')).2.1])
  have hlt : ∀ n q, L.has base n q → q < w.heap.size := fun n q hq => h.lt q hq.2.2
  have hs : Upd [c] w2 (w2.setCell ⟨c, 2, none⟩ ve') := (Upd.refl _ _).setCell (Or.inl (by simp)) _
  have kb : ∀ n q, n ≠ 0 → L.has base n q → q ∉ [c] := fun n q hn hq hq' => by simp at hq'; subst hq'; exact hn (by rw [← hq.2.1, ← h.tb.2.1])
  have hh : ∀ n q, L.has base n q → (L.push w.heap.size p.ends.length B ve').has base n q := fun n q hq => ⟨hq.1, by show (if _ then _ else _) = _; rw [if_neg (by have := hlt n q hq; omega)]; exact hq.2.1, by show q ∈ B :: (_ ++ _); simp [hq.2.2]⟩
  have hsz := hu.size
  have hcl := hlt _ _ h.tb
  have hnew : ∀ q, ve'.ownBlock = some q → q ≠ c ∧ q ≠ B := fun q hq => by
    rcases hblk q hq with h' | h'
    · have := hlt _ _ (h.tl q h')
      exact ⟨(h.tl q h').ne h.tb (by decide), by omega⟩
    · exact ⟨by omega, by omega⟩
  have hBve : B ∉ L.ve.ownBlock.toList := fun hq => by have := hlt _ _ (h.tl B (mem_ownP hq)); omega
  have hU12 : Upd L.ve.ownBlock.toList w w2 := (hu.mono (by simp)).trans_same hu2
  have hlen : ({ p with ends := p.ends ++ [e] } : PortM).ends.length = p.ends.length + 1 := by simp
  refine ⟨{ blk := ?_, ends := ⟨xs ++ endR B e, by rw [hlen]; exact hown.upd hs (fun q hq => by simp; exact (hnew q hq).1), hlay.push⟩, rings := fun i x hi => ?_, box := ⟨ys, (h3.upd hU12 (fun q hq => k _ _ (by decide) (h.tx q hq))).upd hs (fun q hq => kb _ _ (by decide) (h.tx q hq)), fun i bs hi => ?_⟩, outs := (h.outs.upd hU12 (fun q hq => k _ _ (by decide) (h.to q hq))).upd hs (fun q hq => kb _ _ (by decide) (h.to q hq)), tb := hh _ _ h.tb, tl := fun q hq => ?_, tx := fun q hq => hh _ _ (h.tx q hq), to := fun q hq => hh _ _ (h.to q hq), tr := fun i hi => ?_, small := by rw [hlen]; omega, sz := h.sz, fine := fun x hx => ?_, bx := h.bx, lt := fun q hq => ?_, ge := fun q hq => ?_ }, ?_, fun q hq => ?_⟩
  · exact ((h.blk.upd hU12 (k _ _ (by decide) h.tb)).set 2 ve').eq rfl
  · have hi' : (p.ends ++ [e])[i]? = some x := hi
    by_cases hil : i < p.ends.length
    · rw [List.getElem?_append_left hil] at hi'
      have hne : ¬ i = p.ends.length := by omega
      show RefHas _ base (if i = p.ends.length then B else _) (if i = p.ends.length then _ else _) p.size x.xs
      rw [if_neg hne, if_neg hne]
      exact ((h.rings i x hi').upd hU12 (k _ _ (by omega) (h.tr i hil).1) (fun q hq => k _ _ (by omega) ((h.tr i hil).2 q hq))).upd hs (kb _ _ (by omega) (h.tr i hil).1) (fun q hq => kb _ _ (by omega) ((h.tr i hil).2 q hq))
    · have hle : i = p.ends.length := by
        have := (List.getElem?_eq_some_iff.1 hi').1
        rw [List.length_append] at this; simp at this; omega
      subst hle
      rw [List.getElem?_append_right (Nat.le_refl _), Nat.sub_self] at hi'
      cases hi'
      show RefHas _ base (if p.ends.length = p.ends.length then B else _) (if p.ends.length = p.ends.length then _ else _) p.size e.xs
      rw [if_pos rfl, if_pos rfl, hx]
      exact (hR.upd hu2 hBve (fun q hq => by cases hq)).upd hs (by simp; omega) (fun q hq => by cases hq)
  · obtain ⟨v, e1, e2, e3⟩ := h4 i bs hi
    exact ⟨v, e1, (e2.upd hU12 (fun q hq => k _ _ (by decide) (e3 q hq))).upd hs (fun q hq => kb _ _ (by decide) (e3 q hq)), fun q hq => hh _ _ (e3 q hq)⟩
  · have hq' : ve'.ownBlock = some q := hq
    refine ⟨(hown.lt q hq').1, ?_, by show q ∈ B :: (_ ++ _); simp [hq']⟩
    rcases hblk q hq' with h' | h'
    · exact (hh _ _ (h.tl q h')).2.1
    · show (if _ then (if _ then _ else _) else _) = _
      rw [if_pos (by omega), if_neg (hnew q hq').2]
  · rw [hlen] at hi
    by_cases hik : i = p.ends.length
    · subst hik
      show (L.push w.heap.size p.ends.length B ve').has base _ (if p.ends.length = p.ends.length then B else _) ∧ ∀ q, (if p.ends.length = p.ends.length then (.slice none 0 0 : Value) else _).ownBlock = some q → _
      rw [if_pos rfl, if_pos rfl]
      refine ⟨⟨hR.lt.1, ?_, ?_⟩, fun q hq => by cases hq⟩
      · show (if _ then (if _ then _ else _) else _) = _
        rw [if_pos hB, if_pos rfl]
      · show B ∈ B :: _; simp
    · have ht := h.tr i (by omega)
      show (L.push w.heap.size p.ends.length B ve').has base _ (if i = p.ends.length then B else _) ∧ ∀ q, (if i = p.ends.length then (.slice none 0 0 : Value) else _).ownBlock = some q → _
      rw [if_neg hik, if_neg hik]
      exact ⟨hh _ _ ht.1, fun q hq => hh _ _ (ht.2 q hq)⟩
  · rcases List.mem_append.1 hx with h' | h'
    · exact h.fine x h'
    · simp at h'; rw [h']; exact hf
  · have hq' : q ∈ B :: (ve'.ownBlock.toList ++ L.foot) := hq
    have := hs.size
    have := hu2.size
    rcases List.mem_cons.1 hq' with rfl | h'
    · omega
    · rcases List.mem_append.1 h' with h' | h'
      · have := (hown.lt q (mem_ownP h')).2; omega
      · have := h.lt q h'; omega
  · have hq' : q ∈ B :: (ve'.ownBlock.toList ++ L.foot) := hq
    rcases List.mem_cons.1 hq' with rfl | h'
    · exact hR.lt.1
    · rcases List.mem_append.1 h' with h' | h'
      · exact (hown.lt q (mem_ownP h')).1
      · exact h.ge q h'
  · exact (hU12.mono (fun q hq => (h.tl q (mem_ownP hq)).2.2)).trans_same (hs.mono (fun q hq => by simp at hq; subst hq; exact h.tb.2.2))
  · have hq' : q ∈ B :: (ve'.ownBlock.toList ++ L.foot) := hq
    rcases List.mem_cons.1 hq' with rfl | h'
    · exact Or.inr hB
    · rcases List.mem_append.1 h' with h' | h'
      · rcases hblk q (mem_ownP h') with h'' | h''
        · exact Or.inl (h.tl q h'').2.2
        · exact Or.inr (by omega)
      · exact Or.inl h'
end

def RNewPort (w : World) (p : PortM) (e : Ending) (w' : World) : Prop :=
  ∃ c L, e = .returned (.tuple #[.pointer (some ⟨c, 0, none⟩), .int .i64 0]) ∧ RPortAt w' w.heap.size c L p ∧ Upd [] w w'

theorem rp_new_bad (c s z : Int) (w : World) (h : c < 0 ∨ 64 < c ∨ s < 0 ∨ 64 < s ∨ z < 1 ∨ 65536 < z) :
    Calls Try.prog 31 #[.int .i64 c, .int .i64 s, .int .i64 z] w fun e w' => e = .returned (.tuple #[.pointer none, .int .i64 2]) ∧ w = w' := by
  by_cases h1 : c < 0
  · go_enter Try.func31, Try.ntmps31
    go_wp2
    go_ret2
    exact ⟨rfl, rfl⟩
  by_cases h2 : 64 < c
  · go_enter Try.func31, Try.ntmps31
    go_wp2
    go_ret2
    exact ⟨rfl, rfl⟩
  by_cases h3 : s < 0
  · go_enter Try.func31, Try.ntmps31
    go_wp2
    go_ret2
    exact ⟨rfl, rfl⟩
  by_cases h4 : 64 < s
  · go_enter Try.func31, Try.ntmps31
    go_wp2
    go_ret2
    exact ⟨rfl, rfl⟩
  by_cases h5 : z < 1
  · go_enter Try.func31, Try.ntmps31
    go_wp2
    go_ret2
    exact ⟨rfl, rfl⟩
  · have h6 : 65536 < z := by omega
    go_enter Try.func31, Try.ntmps31
    go_wp2
    go_ret2
    exact ⟨rfl, rfl⟩

set_option maxHeartbeats 1000000 in
set_option maxRecDepth 100000 in
theorem rp_new (c s z : Nat) (w : World) (hc : c ≤ 64) (hs : s ≤ 64) (hz1 : 1 ≤ z) (hz : z ≤ 65536) : Calls Try.prog 31 #[.int .i64 c, .int .i64 s, .int .i64 z] w (RNewPort w (PortM.new c s z)) := by
  obtain ⟨n, hn⟩ : ∃ n, n = c + s := ⟨_, rfl⟩
  have wn : IntKind.i64.wrap ((c : Int) + (s : Int)) = (n : Int) := by rw [IntWalk.i64_in _ (by omega)]; omega
  have hB := blk_new' w 95 #[.int .i64 c, .int .i64 z, .slice none 0 0, .slice none 0 0, .slice none 0 0]
  have hU : Upd [] w (w.alloc (.cells #[.int .i64 c, .int .i64 z, .slice none 0 0, .slice none 0 0, .slice none 0 0] 95)) := (Upd.refl _ _).alloc _
  have hst : RPortAt (w.alloc (.cells #[.int .i64 c, .int .i64 z, .slice none 0 0, .slice none 0 0, .slice none 0 0] 95)) w.heap.size w.heap.size ⟨fun _ => 0, fun _ => .slice none 0 0, .slice none 0 0, .slice none 0 0, .slice none 0 0, fun _ => 0, [w.heap.size]⟩ ⟨c, z, List.replicate 0 (EndM.reset 0), [], []⟩ :=
    { blk := hB, ends := ⟨[], own_nil _ _ _ _, rfl, fun i e hi => by simp at hi⟩, rings := fun i e hi => by simp at hi, box := ⟨[], ownE_nil _ _ _ _, fun i bs hi => by simp at hi⟩, outs := own_nil _ _ _ _, tb := ⟨Nat.le_refl _, rfl, by simp⟩, tl := fun q hq => (by cases hq), tx := fun q hq => (by cases hq), to := fun q hq => (by cases hq), tr := fun i hi => by simp at hi, small := Nat.zero_le _, sz := hz, fine := fun e he => by simp at he, bx := Nat.zero_le _, lt := fun q hq => by simp at hq; subst hq; exact hB.lt, ge := fun q hq => by simp at hq; omega }
  have Hn := Lib.hid hn
  have hn128 : n ≤ 128 := by omega
  clear hn hB
  go_enter Try.func31, Try.ntmps31
  go_wp2_with fail
  generalize hgl : w.heap.size = b at *
  generalize w.alloc (.cells #[.int .i64 c, .int .i64 z, .slice none 0 0, .slice none 0 0, .slice none 0 0] 95) = w1 at *
  go_loopw [9] (fun i wr => ∃ k : Nat, k ≤ n ∧ i = .int .i64 k ∧ (∃ L, RPortAt wr b b L ⟨c, z, List.replicate k (EndM.reset 0), [], []⟩) ∧ Upd [] w wr) (fun i _ => n - (intOf i).toNat)
  case atStart => exact ⟨0, Nat.zero_le _, rfl, ⟨_, hst⟩, hU⟩
  case round =>
    clear hst hU
    obtain ⟨k, hk, rfl, ⟨L, hP⟩, hU⟩ := hrel
    by_cases hlt : k < n
    · have h2 := hP.upd ((Upd.refl [] wr).drew) (by simp)
      have hd := hU.drew
      have b2 := h2.blk.cell (i := 2) rfl
      obtain ⟨ao, cap, hv⟩ := h2.veShape
      have hlk : (⟨c, z, List.replicate k (EndM.reset 0), [], []⟩ : PortM).ends.length = k := List.length_replicate
      rw [hlk] at hv
      rw [hv] at b2
      obtain ⟨C, hC⟩ : ∃ C : World → Prop, C = fun w' => w'.cell? ⟨b, 2, none⟩ = some (.slice ao k cap) := ⟨_, rfl⟩
      have hCo : ∀ w', C w' → w'.cell? ⟨b, 2, none⟩ = some (.slice ao k cap) := fun w' h => by rw [hC] at h; exact h
      have hCi : ∀ w', w'.cell? ⟨b, 2, none⟩ = some (.slice ao k cap) → C w' := fun w' h => by rw [hC]; exact h
      have hC0 : C wr.drew := hCi _ b2
      have cc : ∀ x : { w' // C w' }, x.1.cell? ⟨b, 2, none⟩ = some (.slice ao k cap) := fun y => hCo _ y.2
      haveI : Nonempty { w' // C w' } := ⟨⟨_, hC0⟩⟩
      go_wp2_with fail
      refine wp_region_fxl C [6, 7, 8] [11] [4] rfl (by kernel_rfl) hC0 (fun M => ?_)
      clear b2 hP hU
      generalize wr.drew = w2 at *
      refine wpFx_pure rfl (fun K hK => ?_); go_simp; refine hK _ ?_; clear hK K
      refine wpFx_pure rfl (fun K hK => ?_); go_simp; refine hK _ ?_; clear hK K
      refine wpFx_pure rfl (fun K hK => ?_); go_simp; refine hK _ ?_; clear hK K
      refine wpFx_pure rfl (fun K hK => ?_); go_simp; refine hK _ ?_; clear hK K
      refine wpFx_load rfl rfl (fun K hK => ?_); go_simp; refine hK _ ?_; clear hK K
      refine wpFx_pure rfl (fun K hK => ?_); go_simp; refine hK _ ?_; clear hK K
      have hF := rp_fresh 0 h2
      refine wpFx_es rfl rfl (fun K hK => ?_); go_simp
      refine hF.mono ?_
      rintro e w3 ⟨B, rfl, hB, hR, hU3⟩
      have h3 := h2.upd hU3 (by simp)
      have b3 := h3.blk.cell (i := 2) rfl
      rw [hv] at b3
      refine hK _ _ (hCi _ b3) ?_
      clear hK K
      have k4 : Upd [] w3 (w3.alloc (.cells #[.int .i64 0, .int .i64 0, .bool false, .bool false, .bool false, .pointer (some ⟨B, 0, none⟩)] 120)) := (Upd.refl _ _).alloc _
      have hN := blk_new' w3 120 #[.int .i64 0, .int .i64 0, .bool false, .bool false, .bool false, .pointer (some ⟨B, 0, none⟩)]
      refine wpFx_es rfl rfl (fun K hK => ?_); go_simp
      have h4 := h3.upd k4 (by simp)
      have b4 := h4.blk.cell (i := 2) rfl
      rw [hv] at b4
      refine hK _ _ (hCi _ b4) ?_
      clear hK K
      have hBl := hR.lt.2
      have hs4 := k4.size
      have hU4 := hU3.trans_same k4
      have hR4 := hR.upd k4 (by simp) (fun q hq => by cases hq)
      generalize w3.heap.size = Y at *
      generalize w3.alloc (.cells #[.int .i64 0, .int .i64 0, .bool false, .bool false, .bool false, .pointer (some ⟨B, 0, none⟩)] 120) = w4 at *
      obtain ⟨xs, e1, e2⟩ := h4.ends
      have e2l := e2.1
      have e1' := e1
      rw [hv, hlk] at e1'
      have hbs4 : b ≤ w4.heap.size := h4.bsz
      refine wpFx_es rfl rfl (fun K hK => ?_)
      with_reducible refine wp_append_gen (.tmp 47) (.tmp 50) 92 92 rfl 120 (.agg #[.int .i64 0, .int .i64 0, .bool false, .bool false, .bool false, .pointer none]) 6 32 Try.underlying92 Try.infoEndR rfl b ?a1 (.slice ao k cap) k xs rfl ?a2 _ 1 (endR B (EndM.reset 0)) rfl ?a3 ?a4 ?a5 ?a6
      case a1 => exact hbs4
      case a2 => exact e1'
      case a3 => exact Src.ofSlice _ Try.underlying92 ⟨Y, 0, none⟩ _ _ _ rfl (fun j u hj => by rw [addr_add, Nat.zero_add]; exact hN.cell hj) (endR_one B _)
      case a4 => unfold maxLen; omega
      case a5 => omega
      case a6 =>
        intro v' w5 hown5 hU5 hblk5 hnil5 hoff5
        have hnb : b ∉ (Value.slice ao k cap).ownBlock.toList := fun hq => (h4.tl b (by rw [hv]; exact mem_ownP hq)).ne h4.tb (by decide) rfl
        have hb5 := h4.blk.upd hU5 hnb
        have cb := hb5.cell (i := 2) rfl
        have cf := hb5.frozen 2
        rw [hv] at cb
        refine hK _ _ (hCi _ cb) ?_
        clear hK K
        obtain ⟨ao', co', rfl⟩ := hown5.shape
        have hD := h2.push (e := EndM.reset 0) (ve' := .slice ao' (k + 1) co') (w3 := w5.setCell ⟨b, 2, none⟩ (.slice ao' (k + 1) co')) (by rw [hlk]; omega) hU4 hB hR4 (by omega) rfl ⟨Nat.zero_le _, Nat.zero_le _⟩ e2 (by rw [hv]; exact hU5) (by rw [hlk]; exact hown5) (fun q hq => by rw [hv]; exact hblk5 q hq) rfl
        clear hown5 hU5 hblk5 hnil5 hoff5 hnb
        have hfin := hd.trans (fun q hq => Or.inr (by have := h2.ge q hq; omega)) hD.2.1
        go_simp
        refine wpFx_pure rfl (fun K hK => ?_); go_simp; refine hK _ ?_; clear hK K
        refine wpFx_pure rfl (fun K hK => ?_); go_simp; refine hK _ ?_; clear hK K
        refine wpFx_et rfl rfl rfl (fun K hK => ?_); go_simp
        refine hK _ _ ?_; clear hK K
        refine wpFx_nil ?_
        have hD1 : ∃ L, RPortAt (w5.setCell ⟨b, 2, none⟩ (.slice ao' (k + 1) co')) b b L ⟨c, z, List.replicate (k + 1) (EndM.reset 0), [], []⟩ := ⟨_, by rw [List.replicate_succ']; exact hD.1⟩
        clear hD h2 h3 h4 hN hR hR4 e1 e1' e2 cb cf hb5 b3 b4 cc hC0 hCi hCo hC
        go_wp2_with fail
        go_roundw
        case rel => exact ⟨k + 1, hlt, by go_num, hD1, hfin⟩
        case measure => simp [intOf]; omega
    · obtain rfl : k = n := by omega
      have hD : ∃ L, RPortAt wr b b L (PortM.new c s z) := by
        obtain ⟨L, hP⟩ : ∃ L, RPortAt wr b b L ⟨c, z, List.replicate k (EndM.reset 0), [], []⟩ := ⟨L, hP⟩
        refine ⟨L, ?_⟩
        unfold PortM.new
        rw [← Hn.out]
        exact hP
      obtain ⟨L', hD⟩ := hD
      clear hP
      go_wp2_with fail
      go_ret2
      exact ⟨b, L', rfl, by rw [hgl]; exact hD, hU⟩

end Go.Proofs.Ytnbhgfnjnccakaa
