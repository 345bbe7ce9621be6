/- The walks of the ring's writing calls: Put, Drop, Peek, Take, Clear. -/
import Derived.Test.YtnbhgfnjnccakaaRing1
import Derived.StillTailTactics
namespace Go.Proofs.Ytnbhgfnjnccakaa
open Go Go.RowKit
set_option linter.unusedVariables false

/-! ### Put -/

def PutPost (b i o g size cap first n k : Nat) (cur news : List Value) (w : World) (e : Ending) (w' : World) : Prop :=
  e = .returned (.int .i64 (k : Nat)) ∧ Upd [b, g] w w' ∧ ∃ at' m1, at' = (first + n) % size ∧ m1 = min k (size - at') ∧
    Blk w' b 135 (ringCells ((i + k) % 4294967296) o g size cap first (n + k)) ∧ Blk w' g 5 (splice (splice cur at' (news.take m1)) 0 ((news.drop m1).take (k - m1)))

set_option maxHeartbeats 800000 in
set_option maxRecDepth 100000 in
theorem put_some (b i o g size cap first n k : Nat) (cur news : List Value) (ab aoff len c : Nat) (w : World) (hfree : Calls Try.prog 87 #[.pointer (some ⟨b, 0, none⟩)] w fun e w' => e = .returned (.int .i64 ((size - n : Nat) : Int)) ∧ w = w')
   (hb : Blk w b 135 (ringCells i o g size cap first n))
   (hg : Blk w g 5 cur) (hne : b ≠ g) (hn : n ≤ size) (hs : size ≤ 65536) (hf : first < size) (hk0 : 0 < k) (hk1 : k ≤ size - n) (hk2 : k ≤ len) (hlen : len ≤ 9223372036854775807)
   (hi : i < 4294967296) (hsc : size ≤ cap) (hcc : size ≤ cur.length) (hlc : len ≤ c) (hnews : news.length = len) (h1 : ∀ v ∈ news, v.oneCell' = true)
   (hr : ∀ j u, news[j]? = some u → w.cell? ⟨ab, aoff + j, none⟩ = some u) (hab : ab < w.heap.size) (hag : ab ≠ g)
   (hmin : (if size - n < len then ((size - n : Nat) : Int) else (len : Int)) = (k : Int)) :
    Calls Try.prog 59 #[.pointer (some ⟨b, 0, none⟩), .slice (some ⟨ab, aoff, none⟩) len c] w (PutPost b i o g size cap first n k cur news w) := by
  have h2 := hb.cell (i := 2) rfl
  have h3 := hb.cell (i := 3) rfl
  have h4 := hb.cell (i := 4) rfl
  have hk00 : ((k : Int) == 0) = false := by rw [beq_eq_false_iff_ne]; omega
  go_enter Try.func59, Try.ntmps59
  go_wp2_with (go_at_call 87; refine hfree.mono ?_; rintro e w' ⟨rfl, rfl⟩)
  have e1 : IntKind.i64.wrap ((first : Int) + (n : Int)) = ((first + n : Nat) : Int) := by
    rw [IntWalk.i64_in _ (by omega)]; omega
  have e2 : Int.tmod ((first + n : Nat) : Int) (size : Int) = (((first + n) % size : Nat) : Int) := rfl
  have e3 : ((size : Int) == 0) = false := by rw [beq_eq_false_iff_ne]; omega
  go_quiet (fail)
  clear e1 e2 e3
  obtain ⟨at', hat, hat'⟩ : ∃ at' : Nat, ((first : Int) + (n : Int)) % (size : Int) = (at' : Int) ∧ at' = (first + n) % size := ⟨(first + n) % size, by rw [Int.natCast_emod]; rfl, rfl⟩
  have hatl : at' < size := by rw [hat']; exact Nat.mod_lt _ (by omega)
  have Hat := Lib.hid hat'
  clear hat'
  go_wp2_with fail
  have hz1 : at' ≤ size := by omega
  have hz2 : ¬ cap = at' := by omega
  have hz3 : k ≤ c := by omega
  refine wp_region_tail 9 (by kernel_rfl) (by kernel_rfl) ?_
  simp only [List.take_succ_cons, List.take_zero, List.drop_succ_cons, List.drop_zero]
  repeat still_step
  refine wpStill_nil ?_
  have hb0 : Blk (w.drewN nq).drew b 135 (ringCells i o g size cap first n) := hb
  have hg0 : Blk (w.drewN nq).drew g 5 cur := hg
  have hr0 : ∀ j u, news[j]? = some u → (w.drewN nq).drew.cell? ⟨ab, aoff + j, none⟩ = some u := hr
  have hu0 : Upd [b, g] w (w.drewN nq).drew := ((Upd.refl _ _).drewN _).drew
  have hab0 : ab < (w.drewN nq).drew.heap.size := hab
  generalize (w.drewN nq).drew = w0 at *
  clear h2 h3 h4 hb hg hr hab hfree
  obtain ⟨m1, hm1⟩ : ∃ m1, m1 = min k (size - at') := ⟨_, rfl⟩
  refine wpList_copy_blk rfl (.tmp 35) (.tmp 38) 35 35 rfl 5 Try.underlying35 (by kernel_rfl) _ _ _ _ _ _ rfl rfl g at' 5 cur hg0 m1 (news.take m1) hm1 ?hl ?hpos ?hfit ?h1 ?_
  case hl => simp; omega
  case hpos =>
    intro hp
    refine ⟨rfl, ab, aoff, rfl, fun j v hj => hr0 j v ?_⟩
    rw [List.getElem?_take] at hj
    split at hj
    · exact hj
    · cases hj
  case hfit => omega
  case h1 => intro v hv; exact h1 v (List.mem_of_mem_take hv)
  intro w1 hg1 hu1
  have hb1 := hb0.upd hu1 (by simp [hne])
  have hr1 : ∀ j u, news[j]? = some u → w1.cell? ⟨ab, aoff + j, none⟩ = some u := fun j u hj => by
    rw [hu1.cell hab0 (by simp [hag])]; exact hr0 j u hj
  have hab1 : ab < w1.heap.size := Nat.lt_of_lt_of_le hab0 hu1.size
  have hu1 := hu0.trans (fun k hk => Or.inl (by simp at hk ⊢; exact Or.inr hk)) hu1
  clear hb0 hg0 hr0 hu0 hab0
  have h2 := hb1.cell (i := 2) rfl
  have h3 := hb1.cell (i := 3) rfl
  have h4 := hb1.cell (i := 4) rfl
  have hm1k : m1 ≤ k := by omega
  have Hm1 := Lib.hid hm1
  clear hm1
  go_wp2_with fail
  refine wp_region_tail 8 (by kernel_rfl) (by kernel_rfl) ?_
  simp only [List.take_succ_cons, List.take_zero, List.drop_succ_cons, List.drop_zero]
  repeat still_step
  refine wpStill_nil ?_
  have hb2 : Blk w1.drew b 135 (ringCells i o g size cap first n) := hb1
  have hg2 : Blk w1.drew g 5 _ := hg1
  have hr2 : ∀ j u, news[j]? = some u → w1.drew.cell? ⟨ab, aoff + j, none⟩ = some u := hr1
  have hu2 : Upd [b, g] w w1.drew := hu1.drew
  generalize w1.drew = w2 at *
  clear h2 h3 h4 hb1 hg1 hr1 hab1 hu1
  have hM := Hm1.out
  have hl0 : (news.take m1).length = m1 := by simp; omega
  refine wpList_copy_blk rfl (.tmp 43) (.tmp 47) 35 35 rfl 5 Try.underlying35 (by kernel_rfl) _ _ _ _ _ _ rfl rfl g 0 5 _ hg2 (k - m1) ((news.drop m1).take (k - m1)) ?hn ?hl ?hpos ?hfit ?h1 ?_
  case hn => show k - m1 = min (k - m1) size; omega
  case hl => simp; omega
  case hpos =>
    intro hp
    refine ⟨rfl, ab, aoff + m1, ?_, fun j v hj => ?_⟩
    · rw [if_neg (by omega)]
    · rw [List.getElem?_take] at hj
      split at hj
      · rw [List.getElem?_drop] at hj
        have := hr2 (m1 + j) v hj
        rw [← this, Nat.add_assoc]
      · cases hj
  case hfit => rw [length_splice _ _ _ (by rw [hl0]; omega)]; omega
  case h1 => intro v hv; exact h1 v (List.mem_of_mem_drop (List.mem_of_mem_take hv))
  intro w3 hg3 hu3
  have hb3 := hb2.upd hu3 (by simp [hne])
  have hu3 := hu2.trans (fun k hk => Or.inl (by simp at hk ⊢; exact Or.inr hk)) hu3
  clear hb2 hg2 hr2 hu2
  have h0 := hb3.cell (i := 0) rfl
  have h4 := hb3.cell (i := 4) rfl
  have f0 := hb3.frozen 0
  have f4 := hb3.frozen 4
  clear hM hl0
  go_wp2_with fail
  all_goals
    go_ret
    refine ⟨rfl, (hu3.setCell (Or.inl (by simp)) _).setCell (Or.inl (by simp)) _, at', m1, Hat.out, Hm1.out, ((hb3.set 4 _).set 0 _).eq (by simp [ringCells]), (hg3.set_other (by simpa using hne.symm) _).set_other (by simpa using hne.symm) _⟩

theorem put_zero {w : World} {b g : Nat} {r : RingM} (ao : Option Addr) (len c : Nat) (h : RingAt w b g r) (hz : r.size - r.xs.length = 0 ∨ len = 0) :
    Calls Try.prog 59 #[.pointer (some ⟨b, 0, none⟩), .slice ao len c] w fun e w' => e = .returned (.int .i64 0) ∧ w = w' := by
  have hf := ring_free h
  rcases hz with hz | hz
  · rw [hz] at hf
    go_enter Try.func59, Try.ntmps59
    go_wp2_with (go_at_call 87; refine hf.mono ?_; rintro e w' ⟨rfl, rfl⟩)
    all_goals (go_ret; exact ⟨rfl, rfl⟩)
  · subst hz
    generalize r.size - r.xs.length = q at *
    go_enter Try.func59, Try.ntmps59
    go_wp2_with (go_at_call 87; refine hf.mono ?_; rintro e w' ⟨rfl, rfl⟩)
    all_goals (go_ret; exact ⟨rfl, rfl⟩)

theorem ring_put {w : World} {b g : Nat} {r : RingM} {v : Value} {bs : List UInt8} (h : RingAt w b g r) (hv : Rd w v bs) (hvg : bs ≠ [] → v.ownBlock ≠ some g) :
    Calls Try.prog 59 #[.pointer (some ⟨b, 0, none⟩), v] w fun e w' => e = .returned (.int .i64 (r.putN bs : Nat)) ∧ RingAt w' b g (r.put bs) ∧ Upd [b, g] w w' := by
  obtain ⟨ao, c, rfl, hlc, hc, hnil, hsome⟩ := hv
  by_cases hk : r.putN bs = 0
  · have hz : r.size - r.xs.length = 0 ∨ bs.length = 0 := by unfold RingM.putN at hk; omega
    refine (put_zero ao bs.length c h hz).mono ?_
    rintro e w' ⟨rfl, rfl⟩
    rw [hk]
    refine ⟨rfl, ?_, Upd.refl _ _⟩
    have : r.put bs = r := by
      unfold RingM.put; rw [hk]; cases r; simp; exact h.io.1
    rw [this]; exact h
  · obtain ⟨ad, rfl⟩ : ∃ ad, ao = some ad := by
      cases ao with
      | none => have := hnil rfl; unfold RingM.putN at hk; omega
      | some ad => exact ⟨ad, rfl⟩
    obtain ⟨hsp, hcell⟩ := hsome ad rfl
    have hsp := hsp (fun h0 => by subst h0; simp [RingM.putN] at hk)
    obtain ⟨ab, aoff, sp⟩ := ad
    simp only at hsp hcell
    subst hsp
    have hf := ring_free h
    obtain ⟨cap, first, cs, rest, h⟩ := h
    have hK : r.putN bs = min bs.length (r.size - r.xs.length) := rfl
    have hfirst : first < r.size := by have := h.hfirst; omega
    have hb0 : 0 < bs.length := by rw [hK] at hk; omega
    have hab : ab < w.heap.size := by
      have := hcell 0 (byteV (bs[0]'hb0)) (by rw [List.getElem?_map, List.getElem?_eq_getElem hb0]; rfl)
      exact World.block_lt_of_cell? w _ this
    have hfit := h.fit
    have hlen := h.len
    refine (put_some b r.i r.o g r.size cap first r.xs.length (r.putN bs) _ (bs.map byteV) ab aoff bs.length c w hf h.blk h.row h.ne hfit h.small hfirst (by omega) (by omega) (by omega) (by omega) h.i h.cap
      (by simp; omega) hlc (by simp) (bytesV_one bs) hcell hab (fun e => hvg (fun h0 => by subst h0; simp [RingM.putN] at hk) (by simp [Value.ownBlock, e])) (by split <;> omega)).mono ?_
    rintro e w' ⟨rfl, hu, at', m1, hat, hm1, hb', hg'⟩
    refine ⟨rfl, ?_, hu⟩
    have hm := mod_wi hfirst hfit
    have hat2 : at' < r.size := by rw [hat]; exact Nat.mod_lt _ (by omega)
    refine ⟨cap, first, splice (splice cs at' (bs.take m1)) 0 ((bs.drop m1).take (r.putN bs - m1)), rest, ?_⟩
    rw [splice_put_map hlen (by omega) (by omega) (by omega) (by omega) hat2] at hg'
    have l1 : (bs.take m1).length = m1 := by simp; omega
    have l2 : ((bs.drop m1).take (r.putN bs - m1)).length = r.putN bs - m1 := by simp; omega
    have hsz : r.xs.length + r.putN bs ≤ r.size := by omega
    have hL : (splice (splice cs at' (bs.take m1)) 0 ((bs.drop m1).take (r.putN bs - m1))).length = r.size := by
      rw [length_splice _ _ _ (by rw [l2, length_splice _ _ _ (by rw [l1]; omega)]; omega), length_splice _ _ _ (by rw [l1]; omega)]; exact hlen
    have hwin := win_put hlen rfl hfirst (show r.putN bs ≤ r.size - r.xs.length by omega) hfit (show r.putN bs ≤ bs.length by omega) hat hm1 h.win
    have hxl : (r.put bs).xs.length = r.xs.length + r.putN bs := by
      show (r.xs ++ bs.take (r.putN bs)).length = _
      rw [List.length_append, List.length_take]; omega
    exact { blk := hb'.eq (by rw [hxl]; rfl), row := hg', ne := h.ne,
            len := hL, small := h.small, cap := h.cap, fit := by rw [hxl]; exact hsz, hfirst := h.hfirst, i := Nat.mod_lt _ (by omega), o := h.o,
            win := hwin }

end Go.Proofs.Ytnbhgfnjnccakaa
