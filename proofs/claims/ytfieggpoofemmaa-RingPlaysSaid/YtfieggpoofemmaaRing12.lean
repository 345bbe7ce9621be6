/- A ring answers as a list of bytes would: the walk of the law RingPlays. -/
import Derived.Test.YtfieggpoofemmaaRing11
namespace Go.Proofs.Ytfieggpoofemmaa
open Go Go.RowKit
set_option linter.unusedVariables false

/-- A row of calls that came in. -/
def ActRow (w : World) (a : Option Addr) (len : Nat) : Prop := ∀ i, i < len → ∃ x kind n bv bs, a = some x ∧ w.cell? (x.add (i * 3)) = some (.int .i64 kind) ∧ w.cell? ⟨(x.add (i * 3)).block, (x.add (i * 3)).off + 1, none⟩ = some (.int .i64 n) ∧
  w.cell? ⟨(x.add (i * 3)).block, (x.add (i * 3)).off + 2, none⟩ = some bv ∧ Rd w bv bs ∧ bs.length ≤ 140737488355328

theorem among6 (n : Int) : among n 6 = 0 ∨ among n 6 = 1 ∨ among n 6 = 2 ∨ among n 6 = 3 ∨ among n 6 = 4 ∨ among n 6 = 5 := by
  have := among_range n 6 (by decide)
  omega

/-- The two rings, alike. -/
structure Alike (w : World) (b g c : Nat) (v : Value) (r : RingM) (wr : World) : Prop where
  ring : RingAt wr b g r
  ref : RefAt wr w.heap.size c v r
  bc : b ≠ c ∧ g ≠ c
  ap : ∀ q, v.ownBlock = some q → q ≠ b ∧ q ≠ g
  old : w.heap.size ≤ b ∧ w.heap.size ≤ g
  upd : Upd [] w wr

theorem Alike.drewN {w wr : World} {b g c : Nat} {v : Value} {r : RingM} (h : Alike w b g c v r wr) (m : Nat) : Alike w b g c v r (wr.drewN m) :=
  { h with ring := h.ring.upd ((Upd.refl [] _).drewN m) (by simp) (by simp), ref := h.ref.upd ((Upd.refl [] _).drewN m) (by simp) (by simp), upd := h.upd.drewN m }
/-- Both stay as they are, where other blocks change. -/
theorem Alike.upd' {F : List Nat} {w wr w1 : World} {b g c : Nat} {v : Value} {r : RingM} (h : Alike w b g c v r wr) (hu : Upd F wr w1) (hF : ∀ q, q ∈ F → q ≠ b ∧ q ≠ g ∧ q ≠ c ∧ v.ownBlock ≠ some q ∧ w.heap.size ≤ q) : Alike w b g c v r w1 :=
  { h with ring := h.ring.upd hu (fun hq => (hF _ hq).1 rfl) (fun hq => (hF _ hq).2.1 rfl), ref := h.ref.upd hu (fun hq => (hF _ hq).2.2.1 rfl) (fun q hq hq' => (hF _ hq').2.2.2.1 hq), upd := h.upd.trans (fun q hq => Or.inr (hF q hq).2.2.2.2) hu }

set_option maxHeartbeats 2000000 in
set_option maxRecDepth 100000 in
theorem ringPlays_law (w : World) (size : Int) (a1 : Option Addr) (len1 cap1 : Nat) (h1 : ActRow w a1 len1) (hl1 : len1 ≤ 9223372036854775807) :
    Calls Try.prog 6 #[.int .i64 size, .slice a1 len1 cap1] w (Fine w (.bool true)) := by
  by_cases hsz : size < 0 ∨ 65536 < size
  · go_enter Try.func6, Try.ntmps6
    go_wp2_with fail
    refine (ring_new_bad size _ hsz).mono ?_
    rintro e w' ⟨rfl, rfl⟩
    go_wp2_with fail
    refine (ref_new_bad size _ hsz).mono ?_
    rintro e w' ⟨rfl, rfl⟩
    go_wp2_with fail
    go_ret
    exact ⟨rfl, Upd.refl _ _⟩
  · go_enter Try.func6, Try.ntmps6
    go_wp2_with fail
    refine (ring_new size _ (by omega) (by omega)).mono ?_
    rintro e w1 ⟨b, g, rfl, hb, hg, hR, hU1⟩
    go_wp2_with fail
    refine (ref_new size _ (by omega) (by omega)).mono ?_
    rintro e w2 ⟨rfl, hY, hU2⟩
    have hbl := hR.lt
    have hU := hU1.trans_same hU2
    have hs1 := hU1.size
    have hst : Alike w b g w1.heap.size (.slice none 0 0) (RingM.new size.toNat) w2 :=
      ⟨hR.upd hU2 (by simp) (by simp), { hY with own := own_nil _ _ _ _, base := hs1 }, by omega, (fun q hq => by cases hq), ⟨hb, hg⟩, hU⟩
    clear hR hY hU hU1 hU2 hb hg hbl
    generalize w1.heap.size = c at *
    go_wp2_with fail
    go_loopw [5, 9] (fun p i wr => ∃ k : Nat, k ≤ len1 ∧ i = .int .i64 k ∧ ∃ b g v r, p = .pointer (some ⟨b, 0, none⟩) ∧ Alike w b g c v r wr) (fun _ i _ => len1 - (intOf i).toNat)
    case atStart => exact ⟨0, Nat.zero_le _, rfl, _, _, _, _, rfl, hst⟩
    case round =>
      clear hst
      obtain ⟨k, hk, rfl, b, g, v, r, rfl, hA⟩ := hrel
      by_cases hlt : k < len1
      · obtain ⟨x, kind, n, bv, bs, rfl, x0, x1, x2, hbs, hbl⟩ := h1 k hlt
        have y0 : wr.cell? (x.add (k * 3)) = some (.int .i64 kind) := by rw [hA.upd.cell (World.block_lt_of_cell? _ _ x0) (by simp)]; exact x0
        have y1 : wr.cell? ⟨(x.add (k * 3)).block, (x.add (k * 3)).off + 1, none⟩ = some (.int .i64 n) := by rw [hA.upd.cell (World.block_lt_of_cell? _ _ x1) (by simp)]; exact x1
        have y2 : wr.cell? ⟨(x.add (k * 3)).block, (x.add (k * 3)).off + 2, none⟩ = some bv := by rw [hA.upd.cell (World.block_lt_of_cell? _ _ x2) (by simp)]; exact x2
        have hbs' := hbs.upd hA.upd (by simp)
        clear x0 x1 x2
        obtain ⟨av, cv, hbv⟩ : ∃ av cv, bv = .slice av bs.length cv := by obtain ⟨av, cv, h, _⟩ := hbs; exact ⟨av, cv, h⟩
        subst hbv
        go_wp2_with fail
        have hU3 : Upd [] wr (wr.alloc (.cells #[.int .i64 kind, .int .i64 n, .slice av bs.length cv] 46)) := (Upd.refl _ _).alloc _
        have hB3 := blk_new' wr 46 #[.int .i64 kind, .int .i64 n, .slice av bs.length cv]
        have hA3 := hA.upd' hU3 (by simp)
        have hbs3 := hbs'.upd hU3 (by simp)
        have hbo : bs ≠ [] → ∀ q, (Value.slice av bs.length cv).ownBlock = some q → q < w.heap.size := fun hne q hq => hbs.lt hne q hq
        have hlA := hA.ring.lt
        have hlc := hA.ref.lt
        have hlv := hA.ref.vlt
        have hap0 := hA.ap
        have hbc := hA.bc
        have hold := hA.old
        have hcb := hA.ref.base
        have hws := hA.upd.size
        clear h1 y0 y1 y2 hbs' hA
        refine (among_any kind 6 _ (by decide) (by decide)).mono ?_
        rintro e w' ⟨rfl, rfl⟩
        have hAA : ∀ q, q = wr.heap.size → q ≠ b ∧ q ≠ g ∧ q ≠ c ∧ v.ownBlock ≠ some q := fun q hq => ⟨by omega, by omega, by omega, fun h => by have := (hlv q h).2; omega⟩
        generalize hAB : wr.heap.size = A at *
        generalize wr.alloc (.cells #[.int .i64 kind, .int .i64 n, .slice av bs.length cv] 46) = w3 at *
        have a0 := hB3.cell (i := 0) rfl
        have a1 := hB3.cell (i := 1) rfl
        have a2 := hB3.cell (i := 2) rfl
        rcases among6 kind with hm | hm | hm | hm | hm | hm <;> rw [hm] <;> clear hm
        · go_wp2_with fail
          refine (bytes_any _ bs _ hbs3 hbl).mono ?_
          rintro e w4 ⟨u, rfl, hu4, hun, hU4⟩
          obtain ⟨gu, off, cu, pre, rest, hus, hgu, hBu, hpre, hrest, hnc, hcm⟩ := hu4.blk hun
          subst hus
          have hA4 := hA3.upd' hU4 (by simp)
          have hB4 := hB3.upd hU4 (by simp)
          have hl3 := hA3.ring.lt
          have hl3c := hA3.ref.lt
          have hl3v := hA3.ref.vlt
          have hlB := hB3.lt
          have hws3 := hA3.upd.size
          have a2 := hB4.cell (i := 2) rfl
          have hgl := hBu.lt
          clear hA3 hB3 hbs3 hU4 a0 a1
          go_wp2_with fail
          obtain ⟨C, hC⟩ : ∃ C : World → Prop, C = fun w' => w'.cell? ⟨A, 2, none⟩ = some (.slice av bs.length cv) := ⟨_, rfl⟩
          have hCi : ∀ w', w'.cell? ⟨A, 2, none⟩ = some (.slice av bs.length cv) → C w' := fun w' h => by rw [hC]; exact h
          have cc : ∀ x : { w' // C w' }, x.1.cell? ⟨A, 2, none⟩ = some (.slice av bs.length cv) := fun y => by obtain ⟨y, h⟩ := y; rw [hC] at h; exact h
          have hC0 : C w4.drew := hCi _ a2
          haveI : Nonempty { w' // C w' } := ⟨⟨_, hC0⟩⟩
          refine wp_region_fxl C [2, 6, 12] [] [5, 11] rfl (by kernel_rfl) hC0 (fun M => ?_)
          refine wpFx_pure rfl (fun K hK => ?_); go_simp; refine hK _ ?_; clear hK K
          refine wpFx_pure rfl (fun K hK => ?_); go_simp; refine hK _ ?_; clear hK K
          refine wpFx_es rfl rfl (fun K hK => ?_); go_simp
          have hA4d := hA4.drewN 1
          have hBu4 : Blk (w4.drewN 1) gu 5 _ := hBu
          have hB4d : Blk (w4.drewN 1) A _ _ := hB4
          have hru : Rd (w4.drewN 1) (.slice (some ⟨gu, off, none⟩) bs.length cu) bs := hu4.rd
          refine (ring_put hA4d.ring hru (fun _ => by simp [Value.ownBlock]; omega)).mono ?_
          rintro e w5 ⟨rfl, hR5, hU5⟩
          have hB5 := hB4d.upd hU5 (by simp; have := hAA A rfl; omega)
          have hY5 := hA4d.ref.upd hU5 (by simp; omega) (fun q hq => by have := hap0 q hq; simp; omega)
          have hUw5 := hA4d.upd.trans (fun q hq => Or.inr (by simp at hq; omega)) hU5
          have hru5 := hru.upd hU5 (fun q hq => by simp [Value.ownBlock] at hq; simp; omega)
          have hBu5 := hBu4.upd hU5 (by simp; omega)
          have hl5 := hR5.lt
          refine hK _ _ (hCi _ (hB5.cell (i := 2) rfl)) ?_; clear hK K
          refine wpFx_pure rfl (fun K hK => ?_); go_simp; refine hK _ ?_; clear hK K
          refine wpFx_pure rfl (fun K hK => ?_); go_simp; refine hK _ ?_; clear hK K
          refine wpFx_load rfl rfl (fun K hK => ?_); go_simp; refine hK _ ?_; clear hK K
          refine wpFx_es rfl rfl (fun K hK => ?_); go_simp
          refine (ref_put hY5 (hbs.upd hUw5 (by simp)) (fun hne q hq => ?_)).mono ?_
          · have h1 := hbo hne q hq
            exact ⟨by omega, fun h => by have := (hY5.vlt q h).1; omega⟩
          rintro e w6 ⟨rfl, v6, hY6, hv6, hU6⟩
          have hvF : ∀ q, q ∈ c :: v.ownBlock.toList → q = c ∨ v.ownBlock = some q := fun q hq => by
            rcases List.mem_cons.1 hq with h | h
            · exact Or.inl h
            · exact Or.inr (mem_ownB h)
          have hnF : ∀ q, q ∈ c :: v.ownBlock.toList → q ≠ b ∧ q ≠ g ∧ q ≠ A ∧ w.heap.size ≤ q := fun q hq => by
            rcases hvF q hq with h | h
            · subst h; exact ⟨fun h => hbc.1 h.symm, fun h => hbc.2 h.symm, fun h => (hAA q h).2.2.1 rfl, hcb⟩
            · exact ⟨(hap0 q h).1, (hap0 q h).2, fun h' => (hAA q h').2.2.2 h, (hlv q h).1⟩
          have hR6 := hR5.upd hU6 (fun hq => (hnF _ hq).1 rfl) (fun hq => (hnF _ hq).2.1 rfl)
          have hB6 := hB5.upd hU6 (fun hq => (hnF _ hq).2.2.1 rfl)
          have hUw6 := hUw5.trans (fun q hq => Or.inr (hnF q hq).2.2.2) hU6
          have hgF : gu ∉ c :: v.ownBlock.toList := fun hq => by
            rcases hvF _ hq with h | h
            · omega
            · have := (hl3v gu h).2; omega
          have hru6 := hru5.upd hU6 (fun q hq => by simp [Value.ownBlock] at hq; subst hq; exact hgF)
          have hBu6 := hBu5.upd hU6 hgF
          have hAl : Alike w b g c v6 (r.put bs) w6 := ⟨hR6, hY6, hbc, fun q hq => by
            rcases hv6 q hq with h | h
            · exact hap0 q h
            · omega, hold, hUw6⟩
          have hv6' : v6.ownBlock ≠ some gu := fun h => by
            rcases hv6 gu h with h | h
            · have := (hl3v gu h).2; omega
            · have := hBu5.lt; omega
          refine hK _ _ (hCi _ (hB6.cell (i := 2) rfl)) ?_; clear hK K
          refine wpFx_pure rfl (fun K hK => ?_); go_simp; refine hK _ ?_; clear hK K
          refine wpFx_pure rfl (fun K hK => ?_); go_simp; refine hK _ ?_; clear hK K
          refine wpFx_pure rfl (fun K hK => ?_); go_simp; refine hK _ ?_; clear hK K
          refine wpFx_pure rfl (fun K hK => ?_); go_simp; refine hK _ ?_; clear hK K
          refine wpFx_load rfl rfl (fun K hK => ?_); go_simp; refine hK _ ?_; clear hK K
          have hsb := sameBytes_any _ _ _ _ w6 hru6 (hbs.upd hUw6 (by simp))
          rw [show (bs == bs) = true by simp] at hsb
          refine wpFx_esg rfl rfl (fun K hK => ?_); go_simp
          refine hsb.mono ?_
          rintro e w' ⟨rfl, rfl⟩
          refine hK _ _ (hCi _ (hB6.cell (i := 2) rfl)) ?_; clear hK K
          refine wpFx_pure rfl (fun K hK => ?_); go_simp; refine hK _ ?_; clear hK K
          refine wpFx_pure rfl (fun K hK => ?_); go_simp; refine hK _ ?_; clear hK K
          refine wpFx_nil ?_
          obtain ⟨N, cells, hcl, hN, hBc⟩ : ∃ N, ∃ cells : List Value, cells.length = N ∧ off + bs.length ≤ N ∧ Blk w6 gu 5 cells := ⟨_, _, rfl, by simp [hpre], hBu6⟩
          clear hBu6 hBu5 hBu4 hBu hru6 hru5 hru hB6 hB5 hB4 hB4d hY5 hR5 hR6 hY6 hU6 hU5 hUw5 hUw6 hsb hA4 hA4d hu4 hpre hrest a2 hC0 cc hCi hC
          have hbl2 := hbl
          generalize bs.length = L at *
          go_wp2_with fail
          go_loopw [13] (fun i wl => ∃ j : Nat, j ≤ L ∧ i = .int .i64 j ∧ (∃ cells : List Value, cells.length = N ∧ Blk wl gu 5 cells) ∧ Upd [gu] w6 wl) (fun i _ => L - (intOf i).toNat)
          case atStart => exact ⟨0, Nat.zero_le _, rfl, ⟨cells, hcl, hBc⟩, Upd.refl _ _⟩
          case round =>
            clear hcl hBc
            obtain ⟨j, hj, rfl, ⟨cs, hcs, hBl⟩, hUl⟩ := hrel
            by_cases hjl : j < L
            · have hfz := hBl.frozen (off + j)
              obtain ⟨cv0, hcj⟩ : ∃ x, cs[off + j]? = some x := ⟨cs[off + j]'(by omega), List.getElem?_eq_getElem _⟩
              have hce := hBl.cell hcj
              have eadd : (⟨gu, off, none⟩ : Addr).add j = ⟨gu, off + j, none⟩ := addr_add _ _ _
              have hnew : (∃ cells : List Value, cells.length = N ∧ Blk (wr.setCell ⟨gu, off + j, none⟩ (.int .u8 77)) gu 5 cells) ∧ Upd [gu] w6 (wr.setCell ⟨gu, off + j, none⟩ (.int .u8 77)) :=
                ⟨⟨_, by simp [hcs], hBl.set (off + j) _⟩, hUl.setCell (a := ⟨gu, off + j, none⟩) (Or.inl (by simp)) _⟩
              clear hUl
              go_wp2_with fail
              go_roundw
              case rel => exact ⟨j + 1, hjl, by go_num, hnew⟩
              case measure => simp [intOf]; omega
            · have hA5 := hAl.upd' hUl (fun q hq => by simp at hq; subst hq; exact ⟨by omega, by omega, by omega, hv6', by omega⟩)
              clear hBl hUl hAl
              go_wp2_with fail
              refine (told_same hA5.ring hA5.ref).mono ?_
              rintro e w' ⟨rfl, m, rfl⟩
              go_wp2_with fail
              go_roundw
              case rel => exact ⟨k + 1, hlt, by go_num, _, _, _, _, rfl, hA5.drewN m⟩
              case measure => simp [intOf]; omega
        · go_wp2_with fail
          obtain ⟨C, hC⟩ : ∃ C : World → Prop, C = fun w' => w'.cell? ⟨A, 1, none⟩ = some (.int .i64 n) := ⟨_, rfl⟩
          have hCi : ∀ w', w'.cell? ⟨A, 1, none⟩ = some (.int .i64 n) → C w' := fun w' h => by rw [hC]; exact h
          have cc : ∀ x : { w' // C w' }, x.1.cell? ⟨A, 1, none⟩ = some (.int .i64 n) := fun y => by obtain ⟨y, h⟩ := y; rw [hC] at h; exact h
          have hC0 : C (w3).drew := hCi _ a1
          haveI : Nonempty { w' // C w' } := ⟨⟨_, hC0⟩⟩
          refine wp_region_fxl C [3, 7, 8] [] [2, 6] rfl (by kernel_rfl) hC0 (fun M => ?_)
          refine wpFx_pure rfl (fun K hK => ?_); go_simp; refine hK _ ?_; clear hK K
          refine wpFx_pure rfl (fun K hK => ?_); go_simp; refine hK _ ?_; clear hK K
          refine wpFx_load rfl rfl (fun K hK => ?_); go_simp; refine hK _ ?_; clear hK K
          refine wpFx_es rfl rfl (fun K hK => ?_); go_simp
          have hA3d := hA3.drewN 1
          have hB3d : Blk (w3.drewN 1) A _ _ := hB3
          refine (ring_take n hA3d.ring).mono ?_
          rintro e w4 ⟨G, rfl, hG, hBG, hR4, hU4⟩
          have hB4 := hB3d.upd hU4 (by simp; have := hAA A rfl; omega)
          have hY4 := hA3d.ref.upd hU4 (by simp; omega) (fun q hq => by have := (hap0 q hq).1; simp; omega)
          have hUw := hA3d.upd.trans (fun q hq => Or.inr (by simp at hq; omega)) hU4
          refine hK _ _ (hCi _ (hB4.cell (i := 1) rfl)) ?_; clear hK K
          refine wpFx_pure rfl (fun K hK => ?_); go_simp; refine hK _ ?_; clear hK K
          refine wpFx_pure rfl (fun K hK => ?_); go_simp; refine hK _ ?_; clear hK K
          refine wpFx_load rfl rfl (fun K hK => ?_); go_simp; refine hK _ ?_; clear hK K
          refine wpFx_es rfl rfl (fun K hK => ?_); go_simp
          have hs4 := hU4.size
          have hlB := hB3d.lt
          have hlR := hA3d.ring.lt
          refine (ref_take n hY4).mono ?_
          rintro e w5 ⟨u, v5, rfl, hu5, hY5, hv5, hU5⟩
          have hB5 := hB4.upd hU5 (by simp; have := hAA A rfl; omega)
          have hR5 := hR4.upd hU5 (by simp; omega) (by simp; omega)
          have hBG5 := hBG.upd hU5 (by simp; have := hA3d.ref.lt; omega)
          have hUw5 := hUw.trans (fun q hq => Or.inr (by simp at hq; omega)) hU5
          have hA5 : Alike w b g c v5 _ w5 := ⟨hR5, hY5, by omega, fun q hq => by have := hv5 q hq; have := hR4.lt; omega, by omega, hUw5⟩
          refine hK _ _ (hCi _ (hB5.cell (i := 1) rfl)) ?_; clear hK K
          refine wpFx_es rfl rfl (fun K hK => ?_); go_simp
          have hpl := r.peek_length n
          have hcn := r.cnt_le n
          have hfit := hA3.ring.fit
          have hsm := hA3.ring.small
          have hsb := sameBytes_any _ _ _ _ w5 (hBG5.rd (by omega)) hu5.rd
          rw [show (r.peek n == r.peek n) = true by simp] at hsb
          refine hsb.mono ?_
          rintro e w' ⟨rfl, rfl⟩
          refine hK _ _ (hCi _ (hB5.cell (i := 1) rfl)) ?_; clear hK K
          refine wpFx_pure rfl (fun K hK => ?_); go_simp; refine hK _ ?_; clear hK K
          refine wpFx_nil ?_
          clear hR4 hY4 hR5 hY5 hUw hUw5 hU5 hB5 hB4 hBG hBG5 hU4 hA3d hB3d hu5 hA3 hB3 hsb
          go_wp2_with fail
          refine (told_same hA5.ring hA5.ref).mono ?_
          rintro e w' ⟨rfl, m, rfl⟩
          go_wp2_with fail
          go_roundw
          case rel => exact ⟨k + 1, hlt, by go_num, _, _, _, _, rfl, hA5.drewN m⟩
          case measure => simp [intOf]; omega
        · go_wp2_with fail
          refine (ring_peek n hA3.ring).mono ?_
          rintro e w4 ⟨G, rfl, hG, hBG, hU4⟩
          have hR4 := hA3.ring.upd hU4 (by simp) (by simp)
          have hY4 := hA3.ref.upd hU4 (by simp) (by simp)
          have hB4 := hB3.upd hU4 (by simp)
          have a1 := hB4.cell (i := 1) rfl
          have hUw := hA3.upd.trans_same hU4
          have hs4 := hU4.size
          have hlB := hB3.lt
          have hpl := r.peek_length n
          have hcn := r.cnt_le n
          have hfit := hA3.ring.fit
          have hsm := hA3.ring.small
          have hl3 := hA3.ring.lt
          have hl3c := hA3.ref.lt
          have hl3v := hA3.ref.vlt
          have hws3 := hA3.upd.size
          go_wp2_with fail
          refine (ref_peek n hY4).mono ?_
          rintro e w5 ⟨u, rfl, hu5, hU5⟩
          have hBG5 := hBG.upd hU5 (by simp)
          have hsb := sameBytes_any _ _ _ _ w5 (hBG5.rd (by omega)) hu5.rd
          rw [show (r.peek n == r.peek n) = true by simp, hpl] at hsb
          have hAl : Alike w b g c v r w5 := ⟨hR4.upd hU5 (by simp) (by simp), hY4.upd hU5 (by simp) (by simp), hbc, hap0, hold, hUw.trans_same hU5⟩
          go_wp2_with fail
          refine hsb.mono ?_
          rintro e w' ⟨rfl, rfl⟩
          clear hR4 hY4 hB4 hUw hBG hu5 hsb hA3 hB3 hbs3 a0 a1 a2 hU4 hU5
          obtain ⟨cells, hcl, hBc⟩ : ∃ cells : List Value, cells.length = r.cnt n ∧ Blk w5 G 5 cells := ⟨_, by simp [hpl], hBG5⟩
          clear hBG5 hpl
          generalize r.cnt n = L at *
          go_wp2_with fail
          go_loopw [15] (fun i wl => ∃ j : Nat, j ≤ L ∧ i = .int .i64 j ∧ (∃ cells : List Value, cells.length = L ∧ Blk wl G 5 cells) ∧ Upd [G] w5 wl) (fun i _ => L - (intOf i).toNat)
          case atStart => exact ⟨0, Nat.zero_le _, rfl, ⟨cells, hcl, hBc⟩, Upd.refl _ _⟩
          case round =>
            clear hcl hBc
            obtain ⟨j, hj, rfl, ⟨cs, hcs, hBl⟩, hUl⟩ := hrel
            by_cases hjl : j < L
            · have hfz := hBl.frozen j
              obtain ⟨cv0, hcj⟩ : ∃ x, cs[j]? = some x := ⟨cs[j]'(by omega), List.getElem?_eq_getElem _⟩
              have hce := hBl.cell hcj
              have eadd : (⟨G, 0, none⟩ : Addr).add j = ⟨G, j, none⟩ := by rw [addr_add, Nat.zero_add]
              have hnew : (∃ cells : List Value, cells.length = L ∧ Blk (wr.setCell ⟨G, j, none⟩ (.int .u8 78)) G 5 cells) ∧ Upd [G] w5 (wr.setCell ⟨G, j, none⟩ (.int .u8 78)) :=
                ⟨⟨_, by simp [hcs], hBl.set j _⟩, hUl.setCell (a := ⟨G, j, none⟩) (Or.inl (by simp)) _⟩
              clear hUl
              go_wp2_with fail
              go_roundw
              case rel => exact ⟨j + 1, hjl, by go_num, hnew⟩
              case measure => simp [intOf]; omega
            · have hA5 := hAl.upd' hUl (fun q hq => by simp at hq; subst hq; exact ⟨by omega, by omega, by omega, fun h => by have := (hl3v _ h).2; omega, by omega⟩)
              clear hBl hUl hAl
              go_wp2_with fail
              refine (told_same hA5.ring hA5.ref).mono ?_
              rintro e w' ⟨rfl, m, rfl⟩
              go_wp2_with fail
              go_roundw
              case rel => exact ⟨k + 1, hlt, by go_num, _, _, _, _, rfl, hA5.drewN m⟩
              case measure => simp [intOf]; omega
        · go_wp2_with fail
          obtain ⟨C, hC⟩ : ∃ C : World → Prop, C = fun w' => w'.cell? ⟨A, 1, none⟩ = some (.int .i64 n) := ⟨_, rfl⟩
          have hCi : ∀ w', w'.cell? ⟨A, 1, none⟩ = some (.int .i64 n) → C w' := fun w' h => by rw [hC]; exact h
          have cc : ∀ x : { w' // C w' }, x.1.cell? ⟨A, 1, none⟩ = some (.int .i64 n) := fun y => by obtain ⟨y, h⟩ := y; rw [hC] at h; exact h
          have hC0 : C (w3).drew := hCi _ a1
          haveI : Nonempty { w' // C w' } := ⟨⟨_, hC0⟩⟩
          refine wp_region_fxl C [3, 7] [] [2, 6] rfl (by kernel_rfl) hC0 (fun M => ?_)
          refine wpFx_pure rfl (fun K hK => ?_); go_simp; refine hK _ ?_; clear hK K
          refine wpFx_pure rfl (fun K hK => ?_); go_simp; refine hK _ ?_; clear hK K
          refine wpFx_load rfl rfl (fun K hK => ?_); go_simp; refine hK _ ?_; clear hK K
          refine wpFx_es rfl rfl (fun K hK => ?_); go_simp
          have hA3d := hA3.drewN 1
          have hB3d : Blk (w3.drewN 1) A _ _ := hB3
          refine (ring_drop n hA3d.ring).mono ?_
          rintro e w4 ⟨rfl, hR4, hU4⟩
          have hB4 := hB3d.upd hU4 (by simp; have := hAA A rfl; omega)
          have hY4 := hA3d.ref.upd hU4 (by simp; omega) (fun q hq => by have := (hap0 q hq).1; simp; omega)
          have hUw := hA3d.upd.trans (fun q hq => Or.inr (by simp at hq; omega)) hU4
          refine hK _ _ (hCi _ (hB4.cell (i := 1) rfl)) ?_; clear hK K
          refine wpFx_pure rfl (fun K hK => ?_); go_simp; refine hK _ ?_; clear hK K
          refine wpFx_pure rfl (fun K hK => ?_); go_simp; refine hK _ ?_; clear hK K
          refine wpFx_load rfl rfl (fun K hK => ?_); go_simp; refine hK _ ?_; clear hK K
          refine wpFx_es rfl rfl (fun K hK => ?_); go_simp
          refine (ref_take n hY4).mono ?_
          rintro e w5 ⟨u, v5, rfl, hu5, hY5, hv5, hU5⟩
          obtain ⟨au, cu, hus⟩ := hu5.shape
          subst hus
          have hB5 := hB4.upd hU5 (by simp; have := hAA A rfl; omega)
          have hR5 := hR4.upd hU5 (by simp; omega) (by simp; omega)
          have hUw5 := hUw.trans (fun q hq => Or.inr (by simp at hq; omega)) hU5
          have hA5 : Alike w b g c v5 _ w5 := ⟨hR5, hY5, by omega, fun q hq => by have := hv5 q hq; have := hR4.lt; omega, by omega, hUw5⟩
          have hpl := r.peek_length n
          rw [hpl]
          refine hK _ _ (hCi _ (hB5.cell (i := 1) rfl)) ?_; clear hK K
          refine wpFx_pure rfl (fun K hK => ?_); go_simp; refine hK _ ?_; clear hK K
          refine wpFx_pure rfl (fun K hK => ?_); go_simp; refine hK _ ?_; clear hK K
          refine wpFx_pure rfl (fun K hK => ?_); go_simp; refine hK _ ?_; clear hK K
          refine wpFx_nil ?_
          clear hR4 hY4 hR5 hY5 hUw hUw5 hU5 hB5 hB4 hU4 hA3d hB3d hu5 hA3 hB3
          go_wp2_with fail
          refine (told_same hA5.ring hA5.ref).mono ?_
          rintro e w' ⟨rfl, m, rfl⟩
          go_wp2_with fail
          go_roundw
          case rel => exact ⟨k + 1, hlt, by go_num, _, _, _, _, rfl, hA5.drewN m⟩
          case measure => simp [intOf]; omega
        · go_wp2_with fail
          refine (ring_clear hA3.ring).mono ?_
          rintro e w4 ⟨rfl, hR4, hU4⟩
          have hY4 := hA3.ref.upd hU4 (by simp; omega) (fun q hq => by have := (hap0 q hq).1; simp; omega)
          have hUw := hA3.upd.trans (fun q hq => Or.inr (by simp at hq; omega)) hU4
          obtain ⟨ao, co, hvs⟩ := hY4.own.shape
          subst hvs
          have c1 := hY4.blk.cell (i := 1) rfl
          have hT := ref_take (r.xs.length : Nat) hY4
          clear hA3 hU4
          go_wp2_with fail
          refine hT.mono ?_
          rintro e w5 ⟨u, v5, rfl, hu5, hY5, hv5, hU5⟩
          have hR5 := hR4.upd hU5 (by simp; omega) (by simp; omega)
          have hUw5 := hUw.trans (fun q hq => Or.inr (by simp at hq; omega)) hU5
          have hA5 : Alike w b g c v5 _ w5 := ⟨hR5, hY5, by omega, fun q hq => by have := hv5 q hq; have := hR4.lt; omega, by omega, hUw5⟩
          clear hR4 hY4 hT hR5 hY5 hUw hUw5 c1 hU5
          go_wp2_with fail
          refine (told_same hA5.ring hA5.ref).mono ?_
          rintro e w' ⟨rfl, m, rfl⟩
          go_wp2_with fail
          go_roundw
          case rel => exact ⟨k + 1, hlt, by go_num, _, _, _, _, rfl, hA5.drewN m⟩
          case measure => simp [intOf]; omega
        · go_wp2_with fail
          refine (ring_clone hA3.ring).mono ?_
          rintro e w4 ⟨b2, g2, rfl, hb2, hg2, hR4, hU4⟩
          have hl3 := hA3.ring.lt
          have hl3c := hA3.ref.lt
          have hl3v := hA3.ref.vlt
          have hO4 := hA3.ring.upd hU4 (by simp) (by simp)
          have hY4 := hA3.ref.upd hU4 (by simp) (by simp)
          have hUw := hA3.upd.trans_same hU4
          have hs4 := hR4.lt
          have hbw : w.heap.size ≤ w4.heap.size := hUw.size
          clear hA3 hU4
          have kc := fun (w : World) (C : Array Value) (n c : Nat) => Lib.run_convert_bytes_const (P := Try.prog) w 30 5 C n c Try.underlying30 Try.underlying5
          have hr1 := fun fz => rd_lit w4 [115, 112, 111, 105, 108, 116] fz (by decide)
          go_wp2_with fail
          have hO5 := hO4.upd ((Upd.refl [] _).alloc (.cells ([115, 112, 111, 105, 108, 116].map byteV).toArray 5 (6, 7))) (by simp) (by simp)
          have hR5 := hR4.upd ((Upd.refl [] _).alloc (.cells ([115, 112, 111, 105, 108, 116].map byteV).toArray 5 (6, 7))) (by simp) (by simp)
          have hY5 := hY4.upd ((Upd.refl [] _).alloc (.cells ([115, 112, 111, 105, 108, 116].map byteV).toArray 5 (6, 7))) (by simp) (by simp)
          have hUw5 := hUw.alloc (.cells ([115, 112, 111, 105, 108, 116].map byteV).toArray 5 (6, 7))
          refine (ring_put hO5 (hr1 _) ?_).mono ?_
          · intro _; have := hO4.lt; simp [Value.ownBlock]; omega
          rintro e w6 ⟨rfl, hO6, hU6⟩
          have hR6 := hR5.upd hU6 (by simp; omega) (by simp; omega)
          have hY6 := hY5.upd hU6 (by simp; omega) (fun q hq => by have := hap0 q hq; simp; omega)
          have hUw6 := hUw5.trans (fun q hq => Or.inr (by simp at hq; omega)) hU6
          clear hr1 kc hO5 hO4 hR5 hR4 hY5 hY4 hU6 hUw5 hUw
          go_wp2_with fail
          refine (ring_clear hO6).mono ?_
          rintro e w7 ⟨rfl, hO7, hU7⟩
          have hR7 := hR6.upd hU7 (by simp; omega) (by simp; omega)
          have hY7 := hY6.upd hU7 (by simp; omega) (fun q hq => by have := hap0 q hq; simp; omega)
          have hUw7 := hUw6.trans (fun q hq => Or.inr (by simp at hq; omega)) hU7
          have hA5 : Alike w b2 g2 c v _ w7 := ⟨hR7, hY7, by omega, fun q hq => by have := hl3v q hq; omega, by have := hs4; omega, hUw7⟩
          clear hO6 hO7 hR6 hR7 hY6 hY7 hU7 hUw6 hUw7
          go_wp2_with fail
          refine (told_same hA5.ring hA5.ref).mono ?_
          rintro e w' ⟨rfl, m, rfl⟩
          go_wp2_with fail
          go_roundw
          case rel => exact ⟨k + 1, hlt, by go_num, _, _, _, _, rfl, hA5.drewN m⟩
          case measure => simp [intOf]; omega
      · have hA := hA.drewN 0
        obtain rfl : k = len1 := by omega
        obtain ⟨ao, co, hvs⟩ := hA.ref.own.shape
        subst hvs
        have c1 := hA.ref.blk.cell (i := 1) rfl
        rw [show wr.drewN 0 = wr from rfl] at *
        have hfit := hA.ring.fit
        have hsm := hA.ring.small
        have e1 : r.peek 65536 = r.xs := by
          unfold RingM.peek RingM.cnt
          exact List.take_of_length_le (by omega)
        clear h1 hlt
        go_wp2_with fail
        obtain ⟨C, hC⟩ : ∃ C : World → Prop, C = fun w' => w'.cell? ⟨c, 1, none⟩ = some (.slice ao r.xs.length co) := ⟨_, rfl⟩
        have hCi : ∀ w', w'.cell? ⟨c, 1, none⟩ = some (.slice ao r.xs.length co) → C w' := fun w' h => by rw [hC]; exact h
        have cc : ∀ x : { w' // C w' }, x.1.cell? ⟨c, 1, none⟩ = some (.slice ao r.xs.length co) := fun y => by obtain ⟨y, h⟩ := y; rw [hC] at h; exact h
        have hC0 : C wr.drew := hCi _ c1
        haveI : Nonempty { w' // C w' } := ⟨⟨_, hC0⟩⟩
        refine wp_region_fxl C [1, 6, 10, 13] [] [5] rfl (by kernel_rfl) hC0 (fun M => ?_)
        refine wpFx_pure rfl (fun K hK => ?_); go_simp; refine hK _ ?_; clear hK K
        refine wpFx_es rfl rfl (fun K hK => ?_); go_simp
        have hAd := hA.drewN 1
        have hP := ring_peek 65536 hAd.ring
        rw [e1] at hP
        refine hP.mono ?_
        rintro e w4 ⟨G, rfl, hG, hBG, hU4⟩
        have hA4 := hAd.upd' hU4 (by simp)
        have c4 := hA4.ref.blk.cell (i := 1) rfl
        refine hK _ _ (hCi _ c4) ?_; clear hK K
        refine wpFx_pure rfl (fun K hK => ?_); go_simp; refine hK _ ?_; clear hK K
        refine wpFx_pure rfl (fun K hK => ?_); go_simp; refine hK _ ?_; clear hK K
        refine wpFx_pure rfl (fun K hK => ?_); go_simp; refine hK _ ?_; clear hK K
        refine wpFx_load rfl rfl (fun K hK => ?_); go_simp; refine hK _ ?_; clear hK K
        refine wpFx_es rfl rfl (fun K hK => ?_); go_simp
        have hsb := sameBytes_any _ _ _ _ w4 (hBG.rd (by omega)) hA4.ref.rd
        rw [show (r.xs == r.xs) = true by simp] at hsb
        refine hsb.mono ?_
        rintro e w' ⟨rfl, rfl⟩
        refine hK _ _ (hCi _ c4) ?_; clear hK K
        refine wpFx_pure rfl (fun K hK => ?_); go_simp; refine hK _ ?_; clear hK K
        refine wpFx_pure rfl (fun K hK => ?_); go_simp; refine hK _ ?_; clear hK K
        refine wpFx_pure rfl (fun K hK => ?_); go_simp; refine hK _ ?_; clear hK K
        refine wpFx_esg rfl rfl (fun K hK => ?_); go_simp
        refine (told_same hA4.ring hA4.ref).mono ?_
        rintro e w' ⟨rfl, m, rfl⟩
        refine hK _ _ (hCi _ c4) ?_; clear hK K
        refine wpFx_pure rfl (fun K hK => ?_); go_simp; refine hK _ ?_; clear hK K
        refine wpFx_pure rfl (fun K hK => ?_); go_simp; refine hK _ ?_; clear hK K
        refine wpFx_esg rfl rfl (fun K hK => ?_); go_simp
        refine (ring_works _).mono ?_
        rintro e w6 ⟨rfl, hU6⟩
        have hU6' := (hA4.upd.drewN m).trans_same hU6
        have hlc := hA4.ref.lt
        refine hK _ _ (hCi _ (by rw [hU6.cell (a := ⟨c, 1, none⟩) hlc (by simp)]; exact c4)) ?_; clear hK K
        refine wpFx_pure rfl (fun K hK => ?_); go_simp; refine hK _ ?_; clear hK K
        refine wpFx_pure rfl (fun K hK => ?_); go_simp; refine hK _ ?_; clear hK K
        refine wpFx_nil ?_
        go_wp2_with fail
        go_ret
        exact ⟨rfl, hU6'⟩

end Go.Proofs.Ytfieggpoofemmaa
