/- The walks of the port's New, and of SameOuts. -/
import Derived.Test.YtnbhgfnjnccakaaPort6
import Derived.OwnWalk
namespace Go.Proofs.Ytnbhgfnjnccakaa
open Go Go.RowKit
set_option linter.unusedVariables false

theorem Try.infoEnd : (Try.prog.info? 107).map (fun i => (i.zero, i.size, i.bytes)) = some (some (.agg #[.pointer none, .int .i64 0, .int .i64 0, .bool false, .bool false, .bool false]), 6, 32) := by kernel_rfl

def PortM.new (clients servers size : Nat) : PortM := ⟨clients, size, List.replicate (clients + servers) (EndM.reset 0), [], []⟩

theorem pt_new_bad (c s z : Int) (w : World) (h : c < 0 ∨ 64 < c ∨ s < 0 ∨ 64 < s ∨ z < 1 ∨ 65536 < z) :
    Calls Try.prog 15 #[.int .i64 c, .int .i64 s, .int .i64 z] w fun e w' => e = .returned (.tuple #[.pointer none, .int .i64 2]) ∧ w = w' := by
  by_cases h1 : c < 0
  · go_enter Try.func15, Try.ntmps15
    go_wp2
    go_ret2
    exact ⟨rfl, rfl⟩
  by_cases h2 : 64 < c
  · go_enter Try.func15, Try.ntmps15
    go_wp2
    go_ret2
    exact ⟨rfl, rfl⟩
  by_cases h3 : s < 0
  · go_enter Try.func15, Try.ntmps15
    go_wp2
    go_ret2
    exact ⟨rfl, rfl⟩
  by_cases h4 : 64 < s
  · go_enter Try.func15, Try.ntmps15
    go_wp2
    go_ret2
    exact ⟨rfl, rfl⟩
  by_cases h5 : z < 1
  · go_enter Try.func15, Try.ntmps15
    go_wp2
    go_ret2
    exact ⟨rfl, rfl⟩
  · have h6 : 65536 < z := by omega
    go_enter Try.func15, Try.ntmps15
    go_wp2
    go_ret2
    exact ⟨rfl, rfl⟩

/-- An endpoint's cells while they are being made: those of the first k have their rings. -/
def endK (rb : Nat → Nat) (k i : Nat) : List Value := [if i < k then .pointer (some ⟨rb i, 0, none⟩) else .pointer none, .int .i64 0, .int .i64 0, .bool false, .bool false, .bool false]

/-- The port while it is being made. -/
structure PNew (wr : World) (base b gl n k clients size : Nat) (rb g tag : Nat → Nat) (foot : List Nat) : Prop where
  blk : Blk wr b 100 [.int .i64 clients, .slice (some ⟨gl, 0, none⟩) n n, .slice none 0 0, .slice none 0 0, .bool true]
  ends : ∃ xs, Own wr base 107 6 (.slice (some ⟨gl, 0, none⟩) n n) n xs ∧ ∀ i, i < n → ∀ j v, (endK rb k i)[j]? = some v → xs[i * 6 + j]? = some v
  rings : ∀ i, i < k → RingHas wr (rb i) (g i) size []
  tb : base ≤ b ∧ tag b = 0 ∧ b ∈ foot
  tl : base ≤ gl ∧ tag gl = 1 ∧ gl ∈ foot
  tr : ∀ i, i < k → (base ≤ rb i ∧ tag (rb i) = 5 + 2 * i ∧ rb i ∈ foot) ∧ (base ≤ g i ∧ tag (g i) = 6 + 2 * i ∧ g i ∈ foot)
  lt : ∀ q, q ∈ foot → q < wr.heap.size
  ge : ∀ q, q ∈ foot → base ≤ q

theorem PNew.upd {wr w1 : World} {base b gl n k clients size : Nat} {rb g tag : Nat → Nat} {foot : List Nat} (h : PNew wr base b gl n k clients size rb g tag foot) (hu : Upd [] wr w1) : PNew w1 base b gl n k clients size rb g tag foot := by
  obtain ⟨xs, h1, h2⟩ := h.ends
  exact { h with blk := h.blk.upd hu (by simp), ends := ⟨xs, h1.upd hu (by simp), h2⟩, rings := fun i hi => (h.rings i hi).upd hu (by simp) (by simp), lt := fun q hq => Nat.lt_of_lt_of_le (h.lt q hq) hu.size }

/-- One more ring. -/
theorem PNew.step {wr w1 : World} {base b gl n k clients size B G : Nat} {rb g tag : Nat → Nat} {foot : List Nat} (h : PNew wr base b gl n k clients size rb g tag foot) (hk : k < n) (hu : Upd [] wr w1) (hB : wr.heap.size ≤ B) (hG : wr.heap.size ≤ G) (hR : RingHas w1 B G size []) (hbs : base ≤ wr.heap.size) :
    PNew (w1.setCell ⟨gl, k * 6, none⟩ (.pointer (some ⟨B, 0, none⟩))) base b gl n (k + 1) clients size (fun i => if i = k then B else rb i) (fun i => if i = k then G else g i) (fun q => if q = B then 5 + 2 * k else if q = G then 6 + 2 * k else tag q) (B :: G :: foot) := by
  have h1 := h.upd hu
  have hlt := h.lt
  have hBG := hR.ne
  have hRl := hR.lt
  have old : ∀ q, q ∈ foot → q ≠ B ∧ q ≠ G := fun q hq => by have := hlt q hq; omega
  have hs : Upd [gl] w1 (w1.setCell ⟨gl, k * 6, none⟩ (.pointer (some ⟨B, 0, none⟩))) := (Upd.refl _ _).setCell (Or.inl (by simp)) _
  have hglB := old gl h.tl.2.2
  obtain ⟨xs, e1, e2⟩ := h1.ends
  have hxl := e1.1
  have eset := e1.set (k * 6) (.pointer (some ⟨B, 0, none⟩)) (by omega)
  rw [Nat.zero_add] at eset
  have hbgl : b ≠ gl := fun e => by have h1 := h.tb.2.1; have h2 := h.tl.2.1; rw [e] at h1; omega
  have tg : ∀ q, q ∈ foot → (if q = B then 5 + 2 * k else if q = G then 6 + 2 * k else tag q) = tag q := fun q hq => by
    rw [if_neg (old q hq).1, if_neg (old q hq).2]
  refine { blk := h1.blk.upd hs (by simp; exact hbgl), ends := ⟨_, eset, fun i hi j v hv => ?_⟩, rings := fun i hi => ?_, tb := ⟨h.tb.1, by rw [tg _ h.tb.2.2]; exact h.tb.2.1, by simp [h.tb.2.2]⟩, tl := ⟨h.tl.1, by rw [tg _ h.tl.2.2]; exact h.tl.2.1, by simp [h.tl.2.2]⟩, tr := fun i hi => ?_, lt := fun q hq => ?_, ge := fun q hq => ?_ }
  · have hj : j < 6 := (List.getElem?_eq_some_iff.1 hv).1
    by_cases hik : i = k
    · subst hik
      have hold := fun j v (hv : (endK rb i i)[j]? = some v) => e2 i hi j v hv
      rcases j with _ | _ | _ | _ | _ | _ | j
      · simp [endK] at hv
        subst hv
        rw [Nat.add_zero, List.getElem?_set_self (by omega)]
      all_goals
        rw [List.getElem?_set_ne (by omega)]
        refine hold _ v ?_
        rw [← hv]; simp [endK]
    · rw [List.getElem?_set_ne (by omega)]
      refine e2 i hi j v ?_
      rw [← hv]
      unfold endK
      by_cases hlt : i < k
      · rw [if_pos hlt, if_pos (by omega)]; simp only [if_neg hik]
      · rw [if_neg hlt, if_neg (by omega)]
  · by_cases hik : i = k
    · subst hik
      rw [if_pos rfl, if_pos rfl]
      exact hR.upd hs (by simp; omega) (by simp; omega)
    · rw [if_neg hik, if_neg hik]
      obtain ⟨t1, t2⟩ := h.tr i (by omega)
      exact (h1.rings i (by omega)).upd hs (by simp; intro e; have h1 := h.tl.2.1; rw [← e, t1.2.1] at h1; omega) (by simp; intro e; have h1 := h.tl.2.1; rw [← e, t2.2.1] at h1; omega)
  · by_cases hik : i = k
    · subst hik
      simp only [if_pos]
      refine ⟨⟨by omega, by simp, by simp⟩, ⟨by omega, ?_, by simp⟩⟩
      rw [if_neg (fun e => hBG e.symm)]
    · simp only [if_neg hik]
      obtain ⟨t1, t2⟩ := h.tr i (by omega)
      exact ⟨⟨t1.1, by rw [← t1.2.1]; exact tg _ t1.2.2, by simp [t1.2.2]⟩, ⟨t2.1, by rw [← t2.2.1]; exact tg _ t2.2.2, by simp [t2.2.2]⟩⟩
  · have hsz := hs.size
    have husz := hu.size
    simp at hq
    rcases hq with rfl | rfl | hq
    · omega
    · omega
    · have := hlt q hq; omega
  · simp at hq
    rcases hq with rfl | rfl | hq
    · omega
    · omega
    · exact h.ge q hq

theorem PNew.done {wr : World} {base b gl n clients size : Nat} {rb g tag : Nat → Nat} {foot : List Nat} (h : PNew wr base b gl n n clients size rb g tag foot) (hn : n ≤ 128) (hc : clients ≤ n) :
    PortAt wr base b ⟨rb, g, .slice (some ⟨gl, 0, none⟩) n n, .slice none 0 0, .slice none 0 0, tag, foot⟩ ⟨clients, size, List.replicate n (EndM.reset 0), [], []⟩ := by
  obtain ⟨xs, e1, e2⟩ := h.ends
  have he : ∀ i x, (List.replicate n (EndM.reset 0))[i]? = some x → i < n ∧ x = EndM.reset 0 := fun i x hx => by
    rw [List.getElem?_replicate] at hx
    split at hx
    · exact ⟨by assumption, (Option.some.inj hx).symm⟩
    · cases hx
  refine { blk := h.blk, ends := ⟨xs, by rw [List.length_replicate]; exact e1, by rw [List.length_replicate]; exact e1.1, fun i x hx j v hv => ?_⟩, rings := fun i x hx => ?_, box := ⟨[], ownE_nil _ _ _ _, fun i bs hi => by simp at hi⟩, outs := own_nil _ _ _ _, tb := h.tb, tl := fun q hq => (by cases hq; exact h.tl), tx := fun q hq => (by cases hq), to := fun q hq => (by cases hq), tr := fun i hi => h.tr i (by rw [List.length_replicate] at hi; exact hi), small := by rw [List.length_replicate]; exact hn, cl := by rw [List.length_replicate]; exact hc, fine := fun x hx => ?_, bx := Nat.zero_le _, lt := h.lt, ge := h.ge }
  · obtain ⟨hi, rfl⟩ := he i x hx
    refine e2 i hi j v ?_
    rw [← hv]
    unfold endK
    rw [if_pos hi]
    rfl
  · obtain ⟨hi, rfl⟩ := he i x hx
    exact h.rings i hi
  · have := (List.mem_replicate.1 hx).2
    subst this
    exact ⟨Nat.zero_le _, Nat.zero_le _⟩

theorem madeCells_end (n : Nat) (i j : Nat) (hi : i < n) (hj : j < 6) : (madeCells #[.pointer none, .int .i64 0, .int .i64 0, .bool false, .bool false, .bool false] (n * 6)).toList[i * 6 + j]? = ([.pointer none, .int .i64 0, .int .i64 0, .bool false, .bool false, .bool false] : List Value)[j]? := by
  have h1 : i * 6 + j < n * 6 := by omega
  have h2 : (i * 6 + j) % 6 = j := by omega
  have e : (madeCells #[.pointer none, .int .i64 0, .int .i64 0, .bool false, .bool false, .bool false] (n * 6)).toList = (List.range (n * 6)).map (fun i => (#[.pointer none, .int .i64 0, .int .i64 0, .bool false, .bool false, .bool false] : Array Value)[i % 6]!) := by simp [madeCells]
  rw [e, List.getElem?_map, List.getElem?_range h1]
  simp only [Option.map_some, h2]
  rcases j with _ | _ | _ | _ | _ | _ | j
  all_goals first | rfl | omega

theorem outC_length (o : OutM) : (outC o).length = 10 := rfl
theorem outsC_at {os : List OutM} {k j : Nat} {o : OutM} {u : Value} (h : os[k]? = some o) (hj : (outC o)[j]? = some u) : (outsC os)[k * 10 + j]? = some u := by
  have hj10 : j < 10 := by have := (List.getElem?_eq_some_iff.1 hj).1; rw [outC_length] at this; exact this
  induction os generalizing k with
  | nil => simp at h
  | cons a r ih =>
    have e : outsC (a :: r) = outC a ++ outsC r := by simp [outsC]
    rw [e]
    cases k with
    | zero =>
      simp at h
      subst h
      rw [List.getElem?_append_left (by rw [outC_length]; omega), Nat.zero_mul, Nat.zero_add]
      exact hj
    | succ k =>
      simp at h
      rw [List.getElem?_append_right (by rw [outC_length]; omega), outC_length, show (k + 1) * 10 + j - 10 = k * 10 + j by omega]
      exact ih h
def NewPort (w : World) (p : PortM) (e : Ending) (w' : World) : Prop :=
  ∃ b l, e = .returned (.tuple #[.pointer (some ⟨b, 0, none⟩), .int .i64 0]) ∧ PortAt w' w.heap.size b l p ∧ Upd [] w w'

set_option maxHeartbeats 1000000 in
set_option maxRecDepth 100000 in
theorem pt_new (c s z : Nat) (w : World) (hc : c ≤ 64) (hs : s ≤ 64) (hz1 : 1 ≤ z) (hz : z ≤ 65536) : Calls Try.prog 15 #[.int .i64 c, .int .i64 s, .int .i64 z] w (NewPort w (PortM.new c s z)) := by
  obtain ⟨i0, hi, hz0, hz1', hz2⟩ := info_parts Try.infoEnd
  obtain ⟨n, hn⟩ : ∃ n, n = c + s := ⟨_, rfl⟩
  have wn : IntKind.i64.wrap ((c : Int) + (s : Int)) = (n : Int) := by rw [IntWalk.i64_in _ (by omega)]; omega
  have hmk : ∀ u : World, (Instr.makeSlice 98 (.int .i64 n) (.int .i64 n)).run Try.prog u = .ok (.slice (some ⟨u.heap.size, 0, none⟩) n n) (u.alloc (.cells (madeCells #[.pointer none, .int .i64 0, .int .i64 0, .bool false, .bool false, .bool false] (n * 6)) 107)) := fun u => by
    have h := run_make (P := Try.prog) u 98 107 i0 _ Try.underlying98 hi hz0 .i64 .i64 (n : Int) (n : Int) (by omega) (Int.le_refl _) (by rw [hz2]; omega) (by omega)
    rw [hz1', Int.toNat_natCast] at h
    exact h
  have hst : PNew ((w.alloc (.cells (madeCells #[.pointer none, .int .i64 0, .int .i64 0, .bool false, .bool false, .bool false] (n * 6)) 107)).alloc (.cells #[.int .i64 c, .slice (some ⟨w.heap.size, 0, none⟩) n n, .slice none 0 0, .slice none 0 0, .bool true] 100)) w.heap.size (w.heap.size + 1) w.heap.size n 0 c z (fun _ => 0) (fun _ => 0) (fun q => if q = w.heap.size then 1 else 0) [w.heap.size, w.heap.size + 1] := by
    have hB := blk_new' (w.alloc (.cells (madeCells #[.pointer none, .int .i64 0, .int .i64 0, .bool false, .bool false, .bool false] (n * 6)) 107)) 100 #[.int .i64 c, .slice (some ⟨w.heap.size, 0, none⟩) n n, .slice none 0 0, .slice none 0 0, .bool true]
    rw [World.size_alloc] at hB
    have hE := (blk_new' w 107 (madeCells #[.pointer none, .int .i64 0, .int .i64 0, .bool false, .bool false, .bool false] (n * 6))).alloc (.cells #[.int .i64 c, .slice (some ⟨w.heap.size, 0, none⟩) n n, .slice none 0 0, .slice none 0 0, .bool true] 100)
    refine { blk := hB, ends := ⟨(madeCells #[.pointer none, .int .i64 0, .int .i64 0, .bool false, .bool false, .bool false] (n * 6)).toList, ⟨by rw [Array.length_toList, size_madeCells], Or.inr ⟨w.heap.size, 0, n, [], [], rfl, Nat.le_refl _, by simpa using hE, rfl, by simp, Nat.le_refl _, by unfold maxLen; omega⟩⟩, fun i hi j v hv => ?_⟩, rings := fun i hi => absurd hi (Nat.not_lt_zero _), tb := ⟨Nat.le_succ _, by rw [if_neg (by omega)], by simp⟩, tl := ⟨Nat.le_refl _, by rw [if_pos rfl], by simp⟩, tr := fun i hi => absurd hi (Nat.not_lt_zero _), lt := fun q hq => ?_, ge := fun q hq => ?_ }
    · rw [madeCells_end n i j hi (List.getElem?_eq_some_iff.1 hv).1, ← hv]
      rfl
    · simp at hq; rcases hq with rfl | rfl <;> simp <;> omega
    · simp at hq; rcases hq with rfl | rfl <;> omega
  have hU : Upd [] w ((w.alloc (.cells (madeCells #[.pointer none, .int .i64 0, .int .i64 0, .bool false, .bool false, .bool false] (n * 6)) 107)).alloc (.cells #[.int .i64 c, .slice (some ⟨w.heap.size, 0, none⟩) n n, .slice none 0 0, .slice none 0 0, .bool true] 100)) := ((Upd.refl _ _).alloc _).alloc _
  have Hn := Lib.hid hn
  have hn128 : n ≤ 128 ∧ c ≤ n := by omega
  clear hi hz0 hz1' hz2 hn
  go_enter Try.func15, Try.ntmps15
  go_wp2_with fail
  clear hmk wn
  generalize hgl : w.heap.size = gl at *
  generalize ((w.alloc (.cells (madeCells #[.pointer none, .int .i64 0, .int .i64 0, .bool false, .bool false, .bool false] (n * 6)) 107)).alloc (.cells #[.int .i64 c, .slice (some ⟨gl, 0, none⟩) n n, .slice none 0 0, .slice none 0 0, .bool true] 100)) = w1 at *
  go_loopw [46] (fun i wr => ∃ k : Nat, k ≤ n ∧ i = .int .i64 k ∧ (∃ rb g tag foot, PNew wr gl (gl + 1) gl n k c z rb g tag foot) ∧ Upd [] w wr) (fun i _ => n - (intOf i).toNat)
  case atStart => exact ⟨0, Nat.zero_le _, rfl, ⟨_, _, _, _, hst⟩, hU⟩
  case round =>
    clear hst hU
    obtain ⟨k, hk, rfl, ⟨rb, g, tag, foot, hP⟩, hU⟩ := hrel
    by_cases hlt : k < n
    · have hR := rh_new z wr hz
      go_wp2_with fail
      refine hR.mono ?_
      rintro e w2 ⟨B, G, rfl, hB, hG, hRg, hU2⟩
      have hP2 := hP.upd hU2
      have b1 := hP2.blk.cell (i := 1) rfl
      obtain ⟨xs, e1, e2⟩ := hP2.ends
      have hxl := e1.1
      have eadd : (⟨gl, 0, none⟩ : Addr).add (k * 6) = ⟨gl, k * 6, none⟩ := by rw [addr_add, Nat.zero_add]
      have hval := e2 k hlt 0 (.pointer none) (by simp [endK])
      rw [Nat.add_zero] at hval
      have cc := e1.cell rfl hval
      rw [Nat.zero_add] at cc
      have cf := e1.frozen (k * 6)
      have hs := hP.step hlt hU2 hB hG hRg (by have := hP.lt gl hP.tl.2.2; omega)
      have hUs := (hU.trans_same hU2).setCell (a := ⟨gl, k * 6, none⟩) (Or.inr (Nat.le_of_eq hgl)) (.pointer (some ⟨B, 0, none⟩))
      clear hP hP2 hR hRg hU2 hU e1 e2 hxl
      go_wp2_with fail
      go_roundw
      case rel => exact ⟨k + 1, hlt, by go_num, ⟨_, _, _, _, hs⟩, hUs⟩
      case measure => simp [intOf]; omega
    · obtain rfl : k = n := by omega
      have hD := hP.done hn128.1 hn128.2
      rw [Hn.out] at hD
      go_wp2_with fail
      go_ret2
      exact ⟨gl + 1, _, rfl, by rw [hgl]; exact hD, hU⟩

/-! ### SameOuts -/

set_option maxHeartbeats 1000000 in
set_option maxRecDepth 100000 in
theorem sameOuts_ok {w : World} {base1 base2 n : Nat} {v1 v2 : Value} {os : List OutM} (h1 : Own w base1 51 10 v1 n (outsC os)) (h2 : Own w base2 51 10 v2 n (outsC os)) (hn : n = os.length) :
    Calls Try.prog 35 #[v1, v2] w fun e w' => e = .returned (.bool true) ∧ Upd [] w w' := by
  subst hn
  obtain ⟨a1, c1, rfl⟩ := h1.shape
  obtain ⟨a2, c2, rfl⟩ := h2.shape
  go_enter Try.func35, Try.ntmps35
  go_wp2_with fail
  go_loopw [5] (fun i wr => ∃ k : Nat, k ≤ os.length ∧ i = .int .i64 k ∧ ∃ m, wr = w.drewN m) (fun i _ => os.length - (intOf i).toNat)
  case atStart => exact ⟨0, Nat.zero_le _, rfl, 0, rfl⟩
  case round =>
    obtain ⟨k, hk, rfl, m, rfl⟩ := hrel
    by_cases hlt : k < os.length
    · obtain ⟨g1, o1, c1', pre1, rest1, hv1, _, _, _, _, hnc, hcm⟩ := h1.blk (by intro h; injection h with _ h; omega)
      cases hv1
      have hm63 : os.length ≤ 9223372036854775807 := by unfold maxLen at hcm; omega
      clear hnc hcm
      obtain ⟨g2, o2, c2', pre2, rest2, hv2, _, _, _, _, _, _⟩ := h2.blk (by intro h; injection h with _ h; omega)
      cases hv2
      obtain ⟨o, hp⟩ : ∃ o, os[k]? = some o := ⟨os[k], List.getElem?_eq_getElem (by omega)⟩
      have key : ∀ j u, (outC o)[j]? = some u → (outsC os)[k * 10 + j]? = some u := fun j u hj => outsC_at hp hj
      have q1 := fun j u hj => by have := h1.cell rfl (key j u hj); rw [← Nat.add_assoc] at this; exact this
      have q2 := fun j u hj => by have := h2.cell rfl (key j u hj); rw [← Nat.add_assoc] at this; exact this
      have x0 := q1 0 _ rfl
      have x1 := q1 1 _ rfl
      have x2 := q1 2 _ rfl
      have x3 := q1 3 _ rfl
      have x4 := q1 4 _ rfl
      have x5 := q1 5 _ rfl
      have x6 := q1 6 _ rfl
      have x7 := q1 7 _ rfl
      have x8 := q1 8 _ rfl
      have x9 := q1 9 _ rfl
      have y0 := q2 0 _ rfl
      have y1 := q2 1 _ rfl
      have y2 := q2 2 _ rfl
      have y3 := q2 3 _ rfl
      have y4 := q2 4 _ rfl
      have y5 := q2 5 _ rfl
      have y6 := q2 6 _ rfl
      have y7 := q2 7 _ rfl
      have y8 := q2 8 _ rfl
      have y9 := q2 9 _ rfl
      rw [Nat.add_zero] at x0 y0
      have e1 : (⟨g1, o1, none⟩ : Addr).add (k * 10) = ⟨g1, o1 + k * 10, none⟩ := addr_add _ _ _
      have e2 : (⟨g2, o2, none⟩ : Addr).add (k * 10) = ⟨g2, o2 + k * 10, none⟩ := addr_add _ _ _
      clear hp key q1 q2
      go_wp2_with fail
      go_quiet (fail)
      go_wp2_with fail
      go_roundw
      case rel => exact ⟨k + 1, hlt, by go_num, _, rfl⟩
      case measure => simp [intOf]; omega
    · obtain rfl : k = os.length := by omega
      go_wp2_with fail
      go_ret
      exact ⟨rfl, (Upd.refl _ _).drewN _⟩

end Go.Proofs.Ytnbhgfnjnccakaa
