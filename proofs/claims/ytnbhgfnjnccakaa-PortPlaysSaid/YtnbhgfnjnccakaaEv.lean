/- Any event, at the port and at the document's one: both answer alike, and stand alike. -/
import Derived.Test.YtnbhgfnjnccakaaRRp
namespace Go.Proofs.Ytnbhgfnjnccakaa
open Go Go.RowKit
set_option linter.unusedVariables false

section
variable {w w1 : World} {base b : Nat} {l : PLay} {p : PortM}
set_option maxHeartbeats 1000000 in
set_option maxRecDepth 100000 in
theorem gram_full (n : Int) (bs : List UInt8) (ra : Option Addr) (rl rc : Nat) (h : PortAt w base b l p) (hbl : bs.length ≤ 512) (hbx : ¬ p.box.length < 8) :
    Calls Try.prog 56 #[.pointer (some ⟨b, 0, none⟩), evV 8 p.ends.length n bs ra rl rc] w fun e w' => e = .returned (.int .i64 4) ∧ PSame w base b l p w' := by
  unfold evV
  have hX := blk_new' w 34 #[.int .i64 8, .int .i64 p.ends.length, .int .i64 n, .string (strB bs), .slice ra rl rc]
  have k1 : Upd [] w (w.alloc (.cells #[.int .i64 8, .int .i64 p.ends.length, .int .i64 n, .string (strB bs), .slice ra rl rc] 34)) := (Upd.refl _ _).alloc _
  have h1 := h.upd k1 (by simp)
  obtain ⟨ao, co, hvl⟩ := h.vlShape
  obtain ⟨ys, hbo, _⟩ := h.box
  obtain ⟨bo, bc, hvb⟩ := hbo.shape
  have b1 := h1.blk.cell (i := 1) rfl
  have b2 := h1.blk.cell (i := 2) rfl
  rw [hvl] at b1
  rw [hvb] at b2
  have x1 := hX.cell (i := 1) rfl
  have x3 := hX.cell (i := 3) rfl
  have hz : (strB bs).size = bs.length := rfl
  have hd : decide (512 < bs.length) = false := decide_eq_false (by omega)
  have hd' : decide ((512 : Int) < (bs.length : Int)) = false := decide_eq_false (by omega)
  have hb2 : 8 ≤ p.box.length := by omega
  go_enter Try.func56, Try.ntmps56
  go_wp2_with fail
  go_quiet (fail)
  go_wp2_with fail
  go_ret
  exact ⟨rfl, h1.drewN _, (k1.mono (by simp)).drewN _⟩
end

/-- What an event answers, and what it leaves, at both. -/
structure EvAns (p p' : PortM) (kd en n : Int) (bs : List UInt8) (ra : Option Addr) (rl rc : Nat) (a e : Nat) : Prop where
  P : ∀ (w : World) (base b : Nat) (l : PLay), PortAt w base b l p → Calls Try.prog 17 #[.pointer (some ⟨b, 0, none⟩), evV kd en n bs ra rl rc] w fun r w' => r = .returned (.tuple #[.int .i64 a, .int .i64 e]) ∧ PPost w base b l p' w'
  R : ∀ (w : World) (base c : Nat) (L : XLay), RPortAt w base c L p → Calls Try.prog 45 #[.pointer (some ⟨c, 0, none⟩), evV kd en n bs ra rl rc] w (REvPost w base c L a e p')
  outs : p'.outs = p.outs
  len : p'.ends.length = p.ends.length
  cl : p'.clients = p.clients
  rest : ∀ k, k ≠ en → p'.at? k = p.at? k
  bx : ∀ x, x ∈ p'.box → x ∈ p.box ∨ x.length ≤ 512

section
variable {p : PortM} {kd en n : Int} {bs : List UInt8} {ra : Option Addr} {rl rc a e : Nat}
theorem ev_set {i : Nat} {x : EndM} (hi : i < p.ends.length) (hp : ∀ (w : World) (base b : Nat) (l : PLay), PortAt w base b l p → Calls Try.prog 17 #[.pointer (some ⟨b, 0, none⟩), evV kd i n bs ra rl rc] w (EvPost w base b l a e (p.setEnd i x)))
    (hr : ∀ (w : World) (base c : Nat) (L : XLay), RPortAt w base c L p → Calls Try.prog 45 #[.pointer (some ⟨c, 0, none⟩), evV kd i n bs ra rl rc] w (REvPost w base c L a e (p.setEnd i x))) :
    ∃ a e p', EvAns p p' kd i n bs ra rl rc a e :=
  ⟨a, e, p.setEnd i x, ⟨fun w base b l h => (hp w base b l h).mono fun r w' ⟨h1, h2⟩ => ⟨h1, h2.post⟩, hr, rfl, PortM.setEnd_len, rfl, fun k hk => by rw [at?_setEnd hi, if_neg hk], fun x hx => Or.inl hx⟩⟩
theorem ev_same (hp : ∀ (w : World) (base b : Nat) (l : PLay), PortAt w base b l p → Calls Try.prog 17 #[.pointer (some ⟨b, 0, none⟩), evV kd en n bs ra rl rc] w (EvPost w base b l a e p))
    (hr : ∀ (w : World) (base c : Nat) (L : XLay), RPortAt w base c L p → Calls Try.prog 45 #[.pointer (some ⟨c, 0, none⟩), evV kd en n bs ra rl rc] w (REvPost w base c L a e p)) :
    ∃ a e p', EvAns p p' kd en n bs ra rl rc a e :=
  ⟨a, e, p, ⟨fun w base b l h => (hp w base b l h).mono fun r w' ⟨h1, h2⟩ => ⟨h1, h2.post⟩, hr, rfl, rfl, rfl, fun k hk => rfl, fun x hx => Or.inl hx⟩⟩
theorem ev_gramS {c' : Nat} (hg : ∀ (w : World) (base b : Nat) (l : PLay), PortAt w base b l p → Calls Try.prog 56 #[.pointer (some ⟨b, 0, none⟩), evV 8 en n bs ra rl rc] w fun e w' => e = .returned (.int .i64 c') ∧ PSame w base b l p w')
    (hr : ∀ (w : World) (base c : Nat) (L : XLay), RPortAt w base c L p → Calls Try.prog 45 #[.pointer (some ⟨c, 0, none⟩), evV 8 en n bs ra rl rc] w (REvPost w base c L 0 c' p)) :
    ∃ a e p', EvAns p p' 8 en n bs ra rl rc a e :=
  ⟨0, c', p, ⟨fun w base b l h => (ev_gram en n bs ra rl rc c' (fun w1 w' => PSame w1 base b l p w') h (fun w1 hu => hg w1 base b l (h.upd hu (by simp)))).mono fun r w' ⟨h1, w1, hu, h2⟩ => ⟨h1, h2.post.pre hu⟩, hr, rfl, rfl, rfl, fun k hk => rfl, fun x hx => Or.inl hx⟩⟩

theorem ev_any (p : PortM) (kd en n : Int) (bs : List UInt8) (hbl : bs.length ≤ 140737488355328) (ra : Option Addr) (rl rc : Nat) : ∃ a e p', EvAns p p' kd en n bs ra rl rc a e := by
  by_cases h8 : kd = 8
  · subst h8
    by_cases h1 : en = p.ends.length
    · subst h1
      by_cases h2 : bs.length ≤ 512
      · by_cases h3 : p.box.length < 8
        · exact ⟨0, 0, p.boxed bs, ⟨fun w base b l h => (ev_gram _ n bs ra rl rc 0 (fun w1 w' => PPost w1 base b l (p.boxed bs) w') h (fun w1 hu => gram_ok n bs ra rl rc (h.upd hu (by simp)) h2 h3)).mono fun r w' ⟨h1, w1, hu, h2⟩ => ⟨h1, h2.pre hu⟩,
            fun w base c L h => rv_gram_ok n bs ra rl rc h h2 h3, rfl, rfl, rfl, fun k hk => rfl, fun x hx => by
              rcases List.mem_append.1 hx with h' | h'
              · exact Or.inl h'
              · simp at h'; subst h'; exact Or.inr h2⟩⟩
        · exact ev_gramS (fun w base b l h => gram_full n bs ra rl rc h h2 h3) (fun w base c L h => rv_gram_full n bs ra rl rc h h2 h3)
      · exact ev_gramS (fun w base b l h => gram_long n bs ra rl rc h (by omega)) (fun w base c L h => rv_gram_long n bs ra rl rc h (by omega))
    · exact ev_gramS (fun w base b l h => gram_end en n bs ra rl rc h h1) (fun w base c L h => rv_gram_end en n bs ra rl rc h h1)
  · rcases p.at?_cases en with ⟨hn, hk⟩ | ⟨i, x, rfl, hx, hax, hil⟩
    · by_cases ho : kd < 1 ∨ 8 < kd
      · exact ev_same (fun w base b l h => ev_none kd en n bs ra rl rc h h8 hn) (fun w base c L h => rv_other kd en n bs ra rl rc h ho)
      · rcases (show kd = 1 ∨ kd = 2 ∨ kd = 3 ∨ kd = 4 ∨ kd = 5 ∨ kd = 6 ∨ kd = 7 by omega) with rfl | rfl | rfl | rfl | rfl | rfl | rfl
        · exact ev_same (fun w base b l h => ev_none 1 en n bs ra rl rc h h8 hn) (fun w base c L h => rv_none1 en n bs ra rl rc h hn)
        · exact ev_same (fun w base b l h => ev_none 2 en n bs ra rl rc h h8 hn) (fun w base c L h => rv_none2 en n bs ra rl rc h hn)
        · exact ev_same (fun w base b l h => ev_none 3 en n bs ra rl rc h h8 hn) (fun w base c L h => rv_none3 en n bs ra rl rc h hn)
        · exact ev_same (fun w base b l h => ev_none 4 en n bs ra rl rc h h8 hn) (fun w base c L h => rv_none4 en n bs ra rl rc h hn)
        · exact ev_same (fun w base b l h => ev_none 5 en n bs ra rl rc h h8 hn) (fun w base c L h => rv_none5 en n bs ra rl rc h hn)
        · exact ev_same (fun w base b l h => ev_none 6 en n bs ra rl rc h h8 hn) (fun w base c L h => rv_none6 en n bs ra rl rc h hn)
        · exact ev_same (fun w base b l h => ev_none 7 en n bs ra rl rc h h8 hn) (fun w base c L h => rv_none7 en n bs ra rl rc h hn)
    · by_cases ho : kd < 1 ∨ 8 < kd
      · exact ev_same (fun w base b l h => ev_other kd n bs ra rl rc h hx ho) (fun w base c L h => rv_other kd i n bs ra rl rc h ho)
      · rcases (show kd = 1 ∨ kd = 2 ∨ kd = 3 ∨ kd = 4 ∨ kd = 5 ∨ kd = 6 ∨ kd = 7 by omega) with rfl | rfl | rfl | rfl | rfl | rfl | rfl
        · by_cases hc : i < p.clients
          · by_cases hs : x.st = 0
            · exact ev_set hil (fun w base b l h => ev_open_ok n bs ra rl rc h hx hc hs) (fun w base c L h => rv_open_ok n bs ra rl rc h hx hc hs)
            · exact ev_same (fun w base b l h => ev_open_busy n bs ra rl rc h hx hc hs) (fun w base c L h => rv_open_busy n bs ra rl rc h hx hc hs)
          · exact ev_same (fun w base b l h => ev_open_server i n bs ra rl rc h hx hc) (fun w base c L h => rv_open_server n bs ra rl rc h hx hc)
        · by_cases hs : x.st = 1
          · rcases Bool.eq_false_or_eq_true x.theirs with ht | ht
            · exact ev_same (fun w base b l h => ev_data_th n bs ra rl rc h hx hs ht) (fun w base c L h => rv_data_th n bs ra rl rc h hx hs ht)
            · exact ev_set hil (fun w base b l h => ev_data_ok n bs hbl ra rl rc h hx hs ht) (fun w base c L h => rv_data_ok n bs hbl ra rl rc h hx hs ht)
          · exact ev_same (fun w base b l h => ev_data_st n bs ra rl rc h hx hs) (fun w base c L h => rv_data_st n bs ra rl rc h hx hs)
        · by_cases hs : x.st = 1
          · rcases Bool.eq_false_or_eq_true x.theirs with ht | ht
            · exact ev_same (fun w base b l h => ev_fin_th n bs ra rl rc h hx hs ht) (fun w base c L h => rv_fin_th n bs ra rl rc h hx hs ht)
            · exact ev_set hil (fun w base b l h => ev_fin_ok n bs ra rl rc h hx hs ht) (fun w base c L h => rv_fin_ok n bs ra rl rc h hx hs ht)
          · exact ev_same (fun w base b l h => ev_fin_st n bs ra rl rc h hx hs) (fun w base c L h => rv_fin_st n bs ra rl rc h hx hs)
        · by_cases h0 : x.st = 0
          · exact ev_same (fun w base b l h => ev_reset_no n bs ra rl rc h hx (Or.inl h0)) (fun w base c L h => rv_reset_no n bs ra rl rc h hx (Or.inl h0))
          · by_cases h3 : x.st = 3
            · exact ev_same (fun w base b l h => ev_reset_no n bs ra rl rc h hx (Or.inr h3)) (fun w base c L h => rv_reset_no n bs ra rl rc h hx (Or.inr h3))
            · rcases Bool.eq_false_or_eq_true x.fresh with hf | hf
              · exact ev_set hil (fun w base b l h => ev_reset_fresh n bs ra rl rc h hx h0 h3 hf) (fun w base c L h => rv_reset_fresh n bs ra rl rc h hx h0 h3 hf)
              · exact ev_set hil (fun w base b l h => ev_reset_old n bs ra rl rc h hx h0 h3 hf) (fun w base c L h => rv_reset_old n bs ra rl rc h hx h0 h3 hf)
        · by_cases hn : n < 0
          · exact ev_same (fun w base b l h => ev_room_neg n bs ra rl rc h hx hn) (fun w base c L h => rv_room_neg n bs ra rl rc h hx hn)
          · by_cases hs : x.st = 1
            · obtain ⟨m, rfl⟩ := Int.eq_ofNat_of_zero_le (show 0 ≤ n by omega)
              exact ev_set hil (fun w base b l h => ev_room_ok m bs ra rl rc h hx hs) (fun w base c L h => rv_room_ok m bs ra rl rc h hx hs)
            · exact ev_same (fun w base b l h => ev_room_st n bs ra rl rc h hx hn hs) (fun w base c L h => rv_room_st n bs ra rl rc h hx hn hs)
        · by_cases hc : i < p.clients
          · exact ev_same (fun w base b l h => ev_up_client n bs ra rl rc h hx hc) (fun w base c L h => rv_up_client n bs ra rl rc h hx hc)
          · by_cases hs : x.st = 2
            · exact ev_set hil (fun w base b l h => ev_up_ok n bs ra rl rc h hx hc hs) (fun w base c L h => rv_up_ok n bs ra rl rc h hx hc hs)
            · exact ev_same (fun w base b l h => ev_up_st n bs ra rl rc h hx hc hs) (fun w base c L h => rv_up_st n bs ra rl rc h hx hc hs)
        · by_cases hc : i < p.clients
          · exact ev_same (fun w base b l h => ev_down_client n bs ra rl rc h hx hc) (fun w base c L h => rv_down_client n bs ra rl rc h hx hc)
          · by_cases hs : x.st = 2
            · exact ev_set hil (fun w base b l h => ev_down_ok n bs ra rl rc h hx hc hs) (fun w base c L h => rv_down_ok n bs ra rl rc h hx hc hs)
            · exact ev_same (fun w base b l h => ev_down_st n bs ra rl rc h hx hc hs) (fun w base c L h => rv_down_st n bs ra rl rc h hx hc hs)
end

end Go.Proofs.Ytnbhgfnjnccakaa
