/- A ring never holds more than its size: the walk of the law RingBounds. -/
import Derived.Test.YtfieggpoofemmaaRing8
namespace Go.Proofs.Ytfieggpoofemmaa
open Go Go.RowKit
set_option linter.unusedVariables false

/-- A row of byte slices that came in. -/
def BRows (w : World) (a : Option Addr) (len : Nat) (css : Nat → List UInt8) : Prop := ∀ i, i < len → ∃ x v, a = some x ∧ w.cell? (x.add i) = some v ∧ Rd w v (css i) ∧ x.block < w.heap.size

theorem block_add (x : Addr) (i : Nat) : (x.add i).block = x.block := by unfold Addr.add; split <;> rfl

/-- The two counts and what is there. -/
def Even (r : RingM) : Prop := (r.o + r.xs.length) % 4294967296 = r.i

theorem Even.put {r : RingM} (h : Even r) (bs : List UInt8) : Even (r.put bs) := by
  unfold Even RingM.put at *
  have hl : (r.xs ++ bs.take (r.putN bs)).length = r.xs.length + r.putN bs := by
    rw [List.length_append, List.length_take]; unfold RingM.putN; omega
  simp only
  rw [hl, ← h]
  omega
theorem Even.drop {r : RingM} (h : Even r) (n : Int) : Even (r.drop n) := by
  have hc := r.cnt_le n
  unfold Even RingM.drop at *
  simp only [List.length_drop]
  rw [← h]
  omega
theorem Even.moved {r : RingM} (h : Even r) (hl : r.xs.length ≤ 65536) (ho : r.o < 4294967296) : ((r.i : Int) - r.o + 4294967296) % 4294967296 = r.xs.length := by
  unfold Even at h
  omega

set_option maxHeartbeats 1000000 in
set_option maxRecDepth 100000 in
theorem ringBounds_law (w : World) (size : Int) (a1 a2 : Option Addr) (len1 cap1 len2 cap2 : Nat) (css : Nat → List UInt8) (zs : List Int) (h1 : BRows w a1 len1 css) (hl1 : len1 ≤ 9223372036854775807)
    (h2 : IRow w a2 len2 zs) (hl2 : len2 ≤ 9223372036854775807) :
    Calls Try.prog 4 #[.int .i64 size, .slice a1 len1 cap1, .slice a2 len2 cap2] w (Fine w (.bool true)) := by
  by_cases hsz : size < 0 ∨ 65536 < size
  · go_enter Try.func4, Try.ntmps4
    go_wp2_with fail
    refine (ring_works _).mono ?_
    rintro e w1 ⟨rfl, hU1⟩
    go_wp2_with fail
    refine (ring_new_bad size _ hsz).mono ?_
    rintro e w' ⟨rfl, rfl⟩
    go_wp2_with fail
    go_ret
    exact ⟨rfl, hU1⟩
  · obtain ⟨n, rfl⟩ := Int.eq_ofNat_of_zero_le (show 0 ≤ size by omega)
    have hn : n ≤ 65536 := by omega
    clear hsz
    go_enter Try.func4, Try.ntmps4
    go_wp2_with fail
    refine (ring_works _).mono ?_
    rintro e w1 ⟨rfl, hU1⟩
    go_wp2_with fail
    refine (ring_new n _ (by omega) (by omega)).mono ?_
    rintro e w2 ⟨b, g, rfl, hb, hg, h, hU2⟩
    rw [Int.toNat_natCast] at h
    have hU2 := hU1.trans_same hU2
    have hbw : w.heap.size ≤ b ∧ w.heap.size ≤ g := ⟨Nat.le_trans hU1.size hb, Nat.le_trans hU1.size hg⟩
    have hst : ∃ r, RingAt w2 b g r ∧ r.size = n ∧ Even r ∧ Upd [] w w2 := ⟨_, h, rfl, by simp [Even, RingM.new], hU2⟩
    clear h hb hg hU1 hU2
    go_wp2_with fail
    go_loopw [9] (fun i wr => ∃ k : Nat, k ≤ len1 ∧ i = .int .i64 k ∧ ∃ r, RingAt wr b g r ∧ r.size = n ∧ Even r ∧ Upd [] w wr) (fun i _ => len1 - (intOf i).toNat)
    case atStart => exact ⟨0, Nat.zero_le _, rfl, hst⟩
    case round =>
      clear hst
      obtain ⟨k, hk, rfl, r, hr, hrn, hev, hup⟩ := hrel
      by_cases hlt : k < len1
      · obtain ⟨x, v, rfl, hcx, hrd, hxl⟩ := h1 k hlt
        have hcx0 := hcx
        have hcx : wr.cell? (x.add k) = some v := by rw [hup.cell (by rw [block_add]; exact hxl) (by simp)]; exact hcx
        have hrd' := hrd.upd hup (by simp)
        have hrd0 := hrd
        obtain ⟨ao, c, hv, _⟩ := hrd
        have hL := ring_len hr
        have hfit := hr.fit
        have hsm := hr.small
        have hLe : (css k).length ≤ 9223372036854775807 := by obtain ⟨_, _, hv', h1, h2, _⟩ := hrd'; omega
        have hP := ring_put hr hrd' (fun hne e => by have := hrd0.lt hne _ e; omega)
        subst hv
        have hn1 : r.putN (css k) = min (css k).length (r.size - r.xs.length) := rfl
        have hev3 := hev.put (css k)
        have hs3 : (r.put (css k)).size = n := hrn
        have hl3 : (r.put (css k)).xs.length = r.xs.length + r.putN (css k) := by
          show (r.xs ++ (css k).take (r.putN (css k))).length = _
          rw [List.length_append, List.length_take]; omega
        generalize r.put (css k) = r3 at *
        generalize r.putN (css k) = n1 at *
        generalize (css k).length = L at *
        generalize r.xs.length = l0 at *
        rw [hrn] at hn1 hfit
        have hq1 : n1 ≤ L := by omega
        have hq2 : l0 + n1 ≤ n := by omega
        have hq3 : n1 = L ∨ l0 + n1 = n := by omega
        have Hl3 := Lib.hid hl3
        have Hs3 := Lib.hid hs3
        clear hn1 hl3 hs3 hrn hsm hrd0 hrd'
        go_wp2_with (first | (go_at_call 14; refine hL.mono ?_; rintro e w' ⟨rfl, rfl⟩))
        refine hP.mono ?_
        rintro e w3 ⟨rfl, hr3, hU3⟩
        have hU3 := hup.trans (fun k hk => Or.inr (by simp at hk; omega)) hU3
        have hcx3 : w3.cell? (x.add k) = some (.slice ao L c) := by
          rw [hU3.cell (by rw [block_add]; exact hxl) (by simp)]; exact hcx0
        have hM := ring_moved hr3
        have hLn' : ∀ m, Calls Try.prog 14 #[.pointer (some ⟨b, 0, none⟩)] (w3.drewN m) fun e w' => e = .returned (.int .i64 ((l0 + n1 : Nat) : Int)) ∧ w3.drewN m = w' := fun m => by
          have := ring_len (hr3.upd ((Upd.refl [] w3).drewN m) (by simp) (by simp))
          rw [Hl3.out] at this; exact this
        have hC' : ∀ m, Calls Try.prog 16 #[.pointer (some ⟨b, 0, none⟩)] (w3.drewN m) fun e w' => e = .returned (.int .i64 (n : Int)) ∧ w3.drewN m = w' := fun m => by
          have := ring_cap (hr3.upd ((Upd.refl [] w3).drewN m) (by simp) (by simp))
          rw [Hs3.out] at this; exact this
        have hf3 := hr3.fit
        rw [Hl3.out, Hs3.out] at hf3
        have hmv := hev3.moved (by have := hr3.fit; have := hr3.small; omega) hr3.io.2
        rw [Hl3.out] at hmv
        have hio := hr3.io
        have hii : 0 ≤ (r3.i : Int) ∧ (r3.i : Int) < 4294967296 ∧ 0 ≤ (r3.o : Int) ∧ (r3.o : Int) < 4294967296 := by omega
        generalize (r3.i : Int) = ii at *
        generalize (r3.o : Int) = oo at *
        clear hP hL hr hcx hio hf3 hLe
        obtain ⟨hi1, hi2, ho1, ho2⟩ := hii
        clear hcx0
        by_cases hd : k < len2
        · obtain ⟨y, rfl, hcy, hyl⟩ := h2 k hd
          generalize zs.getD k 0 = z at *
          have hcy : w3.cell? (y.add k) = some (.int .i64 z) := by
            rw [hU3.cell (by rw [block_add]; exact hyl) (by simp)]; exact hcy
          clear h1 h2
          go_wp2_with (first
            | (go_at_call 15; refine hM.mono ?_; rintro e w' ⟨rfl, m, rfl⟩)
            | (go_at_call 14; refine (hLn' _).mono ?_; rintro e w' ⟨rfl, rfl⟩)
            | (go_at_call 16; refine (hC' _).mono ?_; rintro e w' ⟨rfl, rfl⟩))
          all_goals
            have hr3m := hr3.upd ((Upd.refl [] w3).drewN m) (by simp) (by simp)
            have hD := ring_drop z hr3m
            have hr4s : (r3.drop z).size = n := Hs3.out
            have hr4e := hev3.drop z
            have hr4l : (r3.drop z).xs.length = l0 + n1 - r3.cnt z := by rw [← Hl3.out]; simp [RingM.drop]
            have hc1 : r3.cnt z ≤ l0 + n1 := by rw [← Hl3.out]; exact r3.cnt_le z
            have hc2 : (r3.cnt z : Int) = z ∨ (z < 0 ∧ r3.cnt z = 0) ∨ (((l0 + n1 : Nat) : Int) < z ∧ r3.cnt z = l0 + n1) := by rw [← Hl3.out]; unfold RingM.cnt; omega
            have hU3m := hU3.drewN m
            generalize r3.drop z = r4 at *
            generalize r3.cnt z = d at *
            generalize w3.drewN m = w4 at *
            have Hr4s := Lib.hid hr4s
            have Hr4l := Lib.hid hr4l
            clear hr4s hr4l hr3m hr3 hcy hcx3 hM hLn' hC' hmv Hl3 Hs3
            refine hD.mono ?_
            rintro e w5 ⟨rfl, hr5, hU5⟩
            have hU5 := hU3m.trans (fun k hk => Or.inr (by simp at hk; omega)) hU5
            have hcy5 : w5.cell? (y.add k) = some (.int .i64 z) := by
              rw [hU5.cell (by rw [block_add]; exact hyl) (by simp)]; exact hcy
            have hF := ring_free hr5
            rw [Hr4s.out, Hr4l.out] at hF
            clear hD
            go_wp2_with (go_at_call 18; refine hF.mono ?_; rintro e w' ⟨rfl, rfl⟩)
            all_goals first
              | exact ⟨⟨k + 1, by omega, by go_num, r4, hr5, Hr4s.out, hr4e, hU5⟩, by simp [intOf]; omega⟩
              | (exfalso; simp at *; omega)
        · have h2' := hd
          clear h1 h2
          go_wp2_with (first
            | (go_at_call 15; refine hM.mono ?_; rintro e w' ⟨rfl, m, rfl⟩)
            | (go_at_call 14; refine (hLn' _).mono ?_; rintro e w' ⟨rfl, rfl⟩)
            | (go_at_call 16; refine (hC' _).mono ?_; rintro e w' ⟨rfl, rfl⟩))
          all_goals first
            | exact ⟨⟨k + 1, by omega, by go_num, r3, hr3.upd ((Upd.refl [] w3).drewN _) (by simp) (by simp), Hs3.out, hev3, hU3.drewN _⟩, by simp [intOf]; omega⟩
            | (exfalso; simp at *; omega)
      · clear h1 h2
        go_wp2
        go_ret
        exact ⟨rfl, hup⟩

/-- A slice of byte slices that came in, as the row's proof opens it. -/
theorem bRows_some {w : World} {x : Addr} {len cap base : Nat} {A : Nat → Option Addr} {L C : Nat → Nat} {Z : Nat → List Int} (hl : len ≤ cap) (hc : cap ≤ maxLen)
    (hrow : ∀ r, r < cap → w.cell? (x.add r) = some (.slice (A r) (L r) (C r)) ∧ L r ≤ C r ∧ C r ≤ maxLen ∧ (Z r).length = C r ∧ (∀ n ∈ Z r, (Lit.int .u8 n).wf = true) ∧ (A r = none → C r = 0) ∧
        ∀ a', A r = some a' → base ≤ a'.block ∧ ∀ c, c < C r → w.cell? (a'.add c) = some (.int .u8 ((Z r).getD c 0))) :
    ∃ css, BRows w (some x) len css ∧ len ≤ 9223372036854775807 := by
  have each : ∀ r, ∃ bs : List UInt8, r < len → Rd w (.slice (A r) (L r) (C r)) bs := by
    intro r
    by_cases hr : r < len
    · obtain ⟨h1, h2, h3, h4, h5, h6, h7⟩ := hrow r (by omega)
      have : ∃ bs : List UInt8, bs.length = L r ∧ Rd w (.slice (A r) (L r) (C r)) bs := by
        refine rd_of_row (zs := Z r) ?_
        cases hA : A r with
        | none =>
          have hc0 := h6 hA
          exact Or.inl ⟨rfl, by omega, hc0, List.eq_nil_of_length_eq_zero (by omega)⟩
        | some a' => exact Or.inr ⟨a', rfl, h2, h3, h4, fun i hi => (h7 a' hA).2 i (by omega), h5⟩
      obtain ⟨bs, _, hbs⟩ := this
      exact ⟨bs, fun _ => hbs⟩
    · exact ⟨[], fun h => absurd h hr⟩
  refine ⟨fun r => Classical.choose (each r), fun i hi => ⟨x, _, rfl, (hrow i (by omega)).1, Classical.choose_spec (each i) hi, ?_⟩, by unfold maxLen at hc; omega⟩
  have := World.block_lt_of_cell? w _ (hrow i (by omega)).1
  rwa [block_add] at this

end Go.Proofs.Ytfieggpoofemmaa
