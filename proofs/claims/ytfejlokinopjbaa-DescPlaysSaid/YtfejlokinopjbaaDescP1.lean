/- The table and the document's one side by side: a call of both. -/
import Derived.Test.YtfejlokinopjbaaRefT6
import Derived.Test.YtfejlokinopjbaaBase0
namespace Go.Proofs.Ytfejlokinopjbaa
open Go Go.RowKit
set_option linter.unusedVariables false

/-- The table t and the document's table s, apart from one another. -/
structure Twin (w : World) (base b c : Nat) (v u : Value) (t s : TabM) (wr : World) : Prop where
  tab : TabAt wr base b v t
  ref : RTab wr base c u s
  bc : b ≠ c
  vc : ∀ q, v.ownBlock = some q → q ≠ c
  ub : ∀ q, u.ownBlock = some q → q ≠ b ∧ v.ownBlock ≠ some q
  upd : Upd [] w wr
  hb : w.heap.size ≤ base

section
variable {w wr w' : World} {base b c : Nat} {v u : Value} {t s t' s' : TabM}
theorem TabAt.mono {base' : Nat} (h : TabAt wr base b v t) (hb : base' ≤ base) : TabAt wr base' b v t := by
  obtain ⟨xs, h1, h2⟩ := h.ex
  exact { h with ex := ⟨xs, h1.mono hb, h2⟩, base := Nat.le_trans hb h.base }
theorem RTab.mono {base' : Nat} (h : RTab wr base c u t) (hb : base' ≤ base) : RTab wr base' c u t := by
  obtain ⟨xs, h1, h2⟩ := h.ex
  exact { h with ex := ⟨xs, h1.mono hb, h2⟩, base := Nat.le_trans hb h.base }
theorem Twin.apart {F : List Nat} (h : Twin w base b c v u t s wr) (hu : Upd F wr w') (hF : ∀ q, q ∈ F → q ≠ b ∧ q ≠ c ∧ v.ownBlock ≠ some q ∧ u.ownBlock ≠ some q ∧ w.heap.size ≤ q) : Twin w base b c v u t s w' :=
  { h with
    tab := h.tab.upd hu (fun hq => (hF _ hq).1 rfl) (fun q hq hq' => (hF _ hq').2.2.1 hq)
    ref := h.ref.upd hu (fun hq => (hF _ hq).2.1 rfl) (fun q hq hq' => (hF _ hq').2.2.2.1 hq)
    upd := h.upd.trans (fun q hq => Or.inr (hF q hq).2.2.2.2) hu }
theorem Twin.same (h : Twin w base b c v u t s wr) (hu : Upd [] wr w') : Twin w base b c v u t s w' := h.apart hu (by simp)
theorem Twin.left (h : Twin w base b c v u t s wr) (hp : TabPost wr base b v t' w') : Twin w base b c v u t' s w' :=
  { h with
    tab := hp.1
    ref := h.ref.upd hp.2 (fun hq => by
      rcases List.mem_cons.1 hq with h' | h'
      · exact h.bc h'.symm
      · exact h.vc _ (mem_ownD h') rfl) (fun q hq hq' => by
      rcases List.mem_cons.1 hq' with h' | h'
      · exact (h.ub q hq).1 h'
      · exact (h.ub q hq).2 (mem_ownD h'))
    upd := hp.below h.tab h.upd h.hb }
theorem Twin.right (h : Twin w base b c v u t s wr) (hp : RPost wr base c u s' w') : Twin w base b c v u t s' w' :=
  { h with
    ref := hp.1
    tab := h.tab.upd hp.2 (fun hq => by
      rcases List.mem_cons.1 hq with h' | h'
      · exact h.bc h'
      · exact (h.ub _ (mem_ownD h')).1 rfl) (fun q hq hq' => by
      rcases List.mem_cons.1 hq' with h' | h'
      · exact h.vc q hq h'
      · exact (h.ub q (mem_ownD h')).2 hq)
    upd := RPost.below h.ref hp h.upd h.hb }
/-- A block that came later is none of theirs. -/
theorem Twin.fresh (h : Twin w base b c v u t s wr) : wr.heap.size ∉ b :: v.ownBlock.toList ∧ wr.heap.size ∉ c :: u.ownBlock.toList := by
  have h1 := h.tab.lt
  have h2 := h.ref.lt
  refine ⟨fun hq => ?_, fun hq => ?_⟩
  · rcases List.mem_cons.1 hq with h' | h'
    · omega
    · have := (h.tab.vlt _ (mem_ownD h')).2; omega
  · rcases List.mem_cons.1 hq with h' | h'
    · omega
    · have := (h.ref.vlt _ (mem_ownD h')).2; omega
end

theorem among5 (n : Int) : among n 5 = 0 ∨ among n 5 = 1 ∨ among n 5 = 2 ∨ among n 5 = 3 ∨ among n 5 = 4 := by
  have := among_range n 5 (by decide)
  omega

def PlayPost (w : World) (base b c : Nat) (v u : Value) (e : Ending) (w' : World) : Prop := e = .returned (.bool true) ∧ ∃ t', Twin w base b c v u t' t' w'

set_option maxHeartbeats 2000000 in
set_option maxRecDepth 100000 in
theorem play_ok {w wr : World} {base b c : Nat} {v u : Value} {t : TabM} (kd ix gen kind num : Int) (h : Twin w base b c v u t t wr) :
    Calls Try.prog 19 #[.pointer (some ⟨b, 0, none⟩), .pointer (some ⟨c, 0, none⟩), .agg #[.int .i64 kd, .int .i64 ix, .int .i64 gen, .int .i64 kind, .int .i64 num]] wr (PlayPost w base b c v u) := by
  have hA := blk_new' wr 42 #[.int .i64 kd, .int .i64 ix, .int .i64 gen, .int .i64 kind, .int .i64 num]
  have h1 := h.same ((Upd.refl [] wr).alloc (.cells #[.int .i64 kd, .int .i64 ix, .int .i64 gen, .int .i64 kind, .int .i64 num] 42))
  obtain ⟨fr1, fr2⟩ := h.fresh
  clear h
  go_enter Try.func19, Try.ntmps19
  have a0 := hA.cell (i := 0) rfl
  have a1 := hA.cell (i := 1) rfl
  have a2 := hA.cell (i := 2) rfl
  have a3 := hA.cell (i := 3) rfl
  have a4 := hA.cell (i := 4) rfl
  go_wp2_with fail
  refine (among_any kd 5 _ (by decide) (by decide)).mono ?_
  rintro e w' ⟨rfl, rfl⟩
  generalize wr.alloc (.cells #[.int .i64 kd, .int .i64 ix, .int .i64 gen, .int .i64 kind, .int .i64 num] 42) = w1 at *
  generalize wr.heap.size = A at *
  rcases among5 kd with hm | hm | hm | hm | hm <;> rw [hm] <;> clear hm
  · go_wp2_with fail
    refine (tab_open kind num h1.tab).mono ?_
    rintro e w2 ⟨rfl, hp⟩
    have h2 := h1.left hp
    have hA2 := hA.upd hp.2 fr1
    clear h1 hA hp a0 a1 a2 a3 a4
    have f2 := h2.fresh
    have k2 : Upd [] w2 (w2.alloc (.cells #[.int .i64 t.openH.1, .int .i64 t.openH.2] 30)) := (Upd.refl _ _).alloc _
    have B2 := blk_new' w2 30 #[.int .i64 t.openH.1, .int .i64 t.openH.2]
    have h3 := h2.same k2
    have hA3 := hA2.upd k2 (by simp)
    have a3 := hA3.cell (i := 3) rfl
    have a4 := hA3.cell (i := 4) rfl
    have a3' := hA2.cell (i := 3) rfl
    have a4' := hA2.cell (i := 4) rfl
    go_wp2_with fail
    have hO := rt_open kind num h3.ref
    generalize t.openH.1 = o1 at *
    generalize t.openH.2 = o2 at *
    generalize t.openE = oe at *
    generalize w2.heap.size = B at *
    generalize w2.alloc (.cells #[.int .i64 o1, .int .i64 o2] 30) = w3 at *
    refine hO.mono ?_
    rintro e w4 ⟨rfl, hp⟩
    have h4 := h3.right hp
    have B4 := B2.upd hp.2 f2.2
    have k4 : Upd [] w4 (w4.alloc (.cells #[.int .i64 o1, .int .i64 o2] 30)) := (Upd.refl _ _).alloc _
    have B5 := B4.upd k4 (by simp)
    have D5 := blk_new' w4 30 #[.int .i64 o1, .int .i64 o2]
    have h5 := h4.same k4
    have x0 := B5.cell (i := 0) rfl
    have x1 := B5.cell (i := 1) rfl
    have y0 := D5.cell (i := 0) rfl
    have y1 := D5.cell (i := 1) rfl
    clear hp h3 h2 hO B2 B4 hA2 hA3 a3 a4 a3' a4' h4 k2 k4 f2
    go_wp2_with fail
    go_ret
    exact ⟨rfl, _, h5⟩
  · have hO := tab_close ix gen h1.tab
    clear a0 a3 a4
    go_wp2_with fail
    obtain ⟨C, hC⟩ : ∃ C : World → Prop, C = fun w' => w'.cell? ⟨A, 1, none⟩ = some (.int .i64 ix) ∧ w'.cell? ⟨A, 2, none⟩ = some (.int .i64 gen) := ⟨_, rfl⟩
    have hCo : ∀ w', C w' → w'.cell? ⟨A, 1, none⟩ = some (.int .i64 ix) ∧ w'.cell? ⟨A, 2, none⟩ = some (.int .i64 gen) := fun w' h => by rw [hC] at h; exact h
    have hCi : ∀ w', w'.cell? ⟨A, 1, none⟩ = some (.int .i64 ix) → w'.cell? ⟨A, 2, none⟩ = some (.int .i64 gen) → C w' := fun w' h1 h2 => by rw [hC]; exact ⟨h1, h2⟩
    have hC0 : C w1.drew := hCi _ a1 a2
    have cc1 : ∀ x : { w' // C w' }, x.1.cell? ⟨A, 1, none⟩ = some (.int .i64 ix) := fun y => by obtain ⟨y, h⟩ := y; exact (hCo _ h).1
    have cc2 : ∀ x : { w' // C w' }, x.1.cell? ⟨A, 2, none⟩ = some (.int .i64 gen) := fun y => by obtain ⟨y, h⟩ := y; exact (hCo _ h).2
    haveI : Nonempty { w' // C w' } := ⟨⟨_, hC0⟩⟩
    refine wp_region_fxl C [3, 7] [] [2, 6] rfl (by kernel_rfl) hC0 (fun M => ?_)
    have hA1 : Blk w1.drew A 42 _ := hA
    have h1d := h1.same (Upd.refl [] w1).drew
    clear hA h1 hC0 a1 a2 hO
    generalize w1.drew = w2 at *
    refine wpFx_pure rfl (fun K hK => ?_); go_simp; refine hK _ ?_; clear hK K
    refine wpFx_pure rfl (fun K hK => ?_); go_simp; refine hK _ ?_; clear hK K
    refine wpFx_load rfl rfl (fun K hK => ?_); go_simp; refine hK _ ?_; clear hK K
    refine wpFx_es rfl rfl (fun K hK => ?_); go_simp
    refine (tab_close ix gen h1d.tab).mono ?_
    rintro e w3 ⟨rfl, hp⟩
    have h3 := h1d.left hp
    have hA3 := hA1.upd hp.2 fr1
    refine hK _ _ (hCi _ (hA3.cell (i := 1) rfl) (hA3.cell (i := 2) rfl)) ?_; clear hK K
    clear hp h1d hA1
    refine wpFx_pure rfl (fun K hK => ?_); go_simp; refine hK _ ?_; clear hK K
    refine wpFx_pure rfl (fun K hK => ?_); go_simp; refine hK _ ?_; clear hK K
    refine wpFx_load rfl rfl (fun K hK => ?_); go_simp; refine hK _ ?_; clear hK K
    refine wpFx_es rfl rfl (fun K hK => ?_); go_simp
    refine (rt_close ix gen h3.ref).mono ?_
    rintro e w4 ⟨rfl, hp⟩
    have h4 := h3.right hp
    have hA4 := hA3.upd hp.2 fr2
    refine hK _ _ (hCi _ (hA4.cell (i := 1) rfl) (hA4.cell (i := 2) rfl)) ?_; clear hK K
    clear hp h3 hA3
    refine wpFx_pure rfl (fun K hK => ?_); go_simp; refine hK _ ?_; clear hK K
    refine wpFx_pure rfl (fun K hK => ?_); go_simp; refine hK _ ?_; clear hK K
    refine wpFx_nil ?_
    go_wp2_with fail
    go_ret
    exact ⟨rfl, _, h4⟩
  · clear a0 a3 a4
    go_wp2_with fail
    refine (tab_lookup ix gen h1.tab).mono ?_
    rintro e w2 ⟨rfl, k2⟩
    have h2 := h1.same k2
    have hA2 := hA.upd k2 (by simp)
    have a1 := hA2.cell (i := 1) rfl
    have a2 := hA2.cell (i := 2) rfl
    clear h1 hA k2
    go_wp2_with fail
    refine (rt_lookup ix gen h2.ref).mono ?_
    rintro e w3 ⟨rfl, k3⟩
    have h3 := h2.same k3
    clear h2 hA2 k3 a1 a2
    go_wp2_with fail
    go_ret
    exact ⟨rfl, _, h3⟩
  · go_wp2_with fail
    obtain ⟨C, hC⟩ : ∃ C : World → Prop, C = fun w' => w'.cell? ⟨A, 1, none⟩ = some (.int .i64 ix) ∧ w'.cell? ⟨A, 2, none⟩ = some (.int .i64 gen) ∧ w'.cell? ⟨A, 3, none⟩ = some (.int .i64 kind) ∧ w'.cell? ⟨A, 4, none⟩ = some (.int .i64 num) := ⟨_, rfl⟩
    have hCo : ∀ w', C w' → w'.cell? ⟨A, 1, none⟩ = some (.int .i64 ix) ∧ w'.cell? ⟨A, 2, none⟩ = some (.int .i64 gen) ∧ w'.cell? ⟨A, 3, none⟩ = some (.int .i64 kind) ∧ w'.cell? ⟨A, 4, none⟩ = some (.int .i64 num) := fun w' h => by rw [hC] at h; exact h
    have hCi : ∀ w', w'.cell? ⟨A, 1, none⟩ = some (.int .i64 ix) → w'.cell? ⟨A, 2, none⟩ = some (.int .i64 gen) → w'.cell? ⟨A, 3, none⟩ = some (.int .i64 kind) → w'.cell? ⟨A, 4, none⟩ = some (.int .i64 num) → C w' := fun w' h1 h2 h3 h4 => by rw [hC]; exact ⟨h1, h2, h3, h4⟩
    have hC0 : C w1.drew := hCi _ a1 a2 a3 a4
    have cc1 : ∀ x : { w' // C w' }, x.1.cell? ⟨A, 1, none⟩ = some (.int .i64 ix) := fun y => by obtain ⟨y, h⟩ := y; exact (hCo _ h).1
    have cc2 : ∀ x : { w' // C w' }, x.1.cell? ⟨A, 2, none⟩ = some (.int .i64 gen) := fun y => by obtain ⟨y, h⟩ := y; exact (hCo _ h).2.1
    have cc3 : ∀ x : { w' // C w' }, x.1.cell? ⟨A, 3, none⟩ = some (.int .i64 kind) := fun y => by obtain ⟨y, h⟩ := y; exact (hCo _ h).2.2.1
    have cc4 : ∀ x : { w' // C w' }, x.1.cell? ⟨A, 4, none⟩ = some (.int .i64 num) := fun y => by obtain ⟨y, h⟩ := y; exact (hCo _ h).2.2.2
    haveI : Nonempty { w' // C w' } := ⟨⟨_, hC0⟩⟩
    refine wp_region_fxl C [7, 15] [] [2, 4, 6, 10, 12, 14] rfl (by kernel_rfl) hC0 (fun M => ?_)
    have hA1 : Blk w1.drew A 42 _ := hA
    have h1d := h1.same (Upd.refl [] w1).drew
    clear hA h1 hC0 a0 a1 a2 a3 a4
    generalize w1.drew = w2 at *
    refine wpFx_pure rfl (fun K hK => ?_); go_simp; refine hK _ ?_; clear hK K
    refine wpFx_pure rfl (fun K hK => ?_); go_simp; refine hK _ ?_; clear hK K
    refine wpFx_load rfl rfl (fun K hK => ?_); go_simp; refine hK _ ?_; clear hK K
    refine wpFx_pure rfl (fun K hK => ?_); go_simp; refine hK _ ?_; clear hK K
    refine wpFx_load rfl rfl (fun K hK => ?_); go_simp; refine hK _ ?_; clear hK K
    refine wpFx_pure rfl (fun K hK => ?_); go_simp; refine hK _ ?_; clear hK K
    refine wpFx_load rfl rfl (fun K hK => ?_); go_simp; refine hK _ ?_; clear hK K
    refine wpFx_es rfl rfl (fun K hK => ?_); go_simp
    refine (tab_set ix gen kind num h1d.tab).mono ?_
    rintro e w3 ⟨rfl, hp⟩
    have h3 := h1d.left hp
    have hA3 := hA1.upd hp.2 fr1
    refine hK _ _ (hCi _ (hA3.cell (i := 1) rfl) (hA3.cell (i := 2) rfl) (hA3.cell (i := 3) rfl) (hA3.cell (i := 4) rfl)) ?_; clear hK K
    clear hp h1d hA1
    refine wpFx_pure rfl (fun K hK => ?_); go_simp; refine hK _ ?_; clear hK K
    refine wpFx_pure rfl (fun K hK => ?_); go_simp; refine hK _ ?_; clear hK K
    refine wpFx_load rfl rfl (fun K hK => ?_); go_simp; refine hK _ ?_; clear hK K
    refine wpFx_pure rfl (fun K hK => ?_); go_simp; refine hK _ ?_; clear hK K
    refine wpFx_load rfl rfl (fun K hK => ?_); go_simp; refine hK _ ?_; clear hK K
    refine wpFx_pure rfl (fun K hK => ?_); go_simp; refine hK _ ?_; clear hK K
    refine wpFx_load rfl rfl (fun K hK => ?_); go_simp; refine hK _ ?_; clear hK K
    refine wpFx_es rfl rfl (fun K hK => ?_); go_simp
    refine (rt_set ix gen kind num h3.ref).mono ?_
    rintro e w4 ⟨rfl, hp⟩
    have h4 := h3.right hp
    have hA4 := hA3.upd hp.2 fr2
    refine hK _ _ (hCi _ (hA4.cell (i := 1) rfl) (hA4.cell (i := 2) rfl) (hA4.cell (i := 3) rfl) (hA4.cell (i := 4) rfl)) ?_; clear hK K
    clear hp h3 hA3
    refine wpFx_pure rfl (fun K hK => ?_); go_simp; refine hK _ ?_; clear hK K
    refine wpFx_pure rfl (fun K hK => ?_); go_simp; refine hK _ ?_; clear hK K
    refine wpFx_nil ?_
    go_wp2_with fail
    go_ret
    exact ⟨rfl, _, h4⟩
  · go_wp2_with fail
    obtain ⟨C, hC⟩ : ∃ C : World → Prop, C = fun w' => w'.cell? ⟨A, 1, none⟩ = some (.int .i64 ix) ∧ w'.cell? ⟨A, 2, none⟩ = some (.int .i64 gen) := ⟨_, rfl⟩
    have hCo : ∀ w', C w' → w'.cell? ⟨A, 1, none⟩ = some (.int .i64 ix) ∧ w'.cell? ⟨A, 2, none⟩ = some (.int .i64 gen) := fun w' h => by rw [hC] at h; exact h
    have hCi : ∀ w', w'.cell? ⟨A, 1, none⟩ = some (.int .i64 ix) → w'.cell? ⟨A, 2, none⟩ = some (.int .i64 gen) → C w' := fun w' h1 h2 => by rw [hC]; exact ⟨h1, h2⟩
    have hC0 : C w1.drew := hCi _ a1 a2
    have cc1 : ∀ x : { w' // C w' }, x.1.cell? ⟨A, 1, none⟩ = some (.int .i64 ix) := fun y => by obtain ⟨y, h⟩ := y; exact (hCo _ h).1
    have cc2 : ∀ x : { w' // C w' }, x.1.cell? ⟨A, 2, none⟩ = some (.int .i64 gen) := fun y => by obtain ⟨y, h⟩ := y; exact (hCo _ h).2
    haveI : Nonempty { w' // C w' } := ⟨⟨_, hC0⟩⟩
    refine wp_region_fxl C [7, 15] [] [3, 6, 11, 14] rfl (by kernel_rfl) hC0 (fun M => ?_)
    have hA1 : Blk w1.drew A 42 _ := hA
    have h1d := h1.same (Upd.refl [] w1).drew
    clear hA h1 hC0 a0 a1 a2 a3 a4
    generalize w1.drew = w2 at *
    refine wpFx_pure rfl (fun K hK => ?_); go_simp; refine hK _ ?_; clear hK K
    refine wpFx_pure rfl (fun K hK => ?_); go_simp; refine hK _ ?_; clear hK K
    refine wpFx_pure rfl (fun K hK => ?_); go_simp; refine hK _ ?_; clear hK K
    refine wpFx_load rfl rfl (fun K hK => ?_); go_simp; refine hK _ ?_; clear hK K
    refine wpFx_pure rfl (fun K hK => ?_); go_simp; refine hK _ ?_; clear hK K
    refine wpFx_pure rfl (fun K hK => ?_); go_simp; refine hK _ ?_; clear hK K
    refine wpFx_load rfl rfl (fun K hK => ?_); go_simp; refine hK _ ?_; clear hK K
    refine wpFx_es rfl rfl (fun K hK => ?_); go_simp
    refine (tab_age ix gen h1d.tab).mono ?_
    rintro e w3 ⟨rfl, hp⟩
    have h3 := h1d.left hp
    have hA3 := hA1.upd hp.2 fr1
    refine hK _ _ (hCi _ (hA3.cell (i := 1) rfl) (hA3.cell (i := 2) rfl)) ?_; clear hK K
    clear hp h1d hA1
    refine wpFx_pure rfl (fun K hK => ?_); go_simp; refine hK _ ?_; clear hK K
    refine wpFx_pure rfl (fun K hK => ?_); go_simp; refine hK _ ?_; clear hK K
    refine wpFx_pure rfl (fun K hK => ?_); go_simp; refine hK _ ?_; clear hK K
    refine wpFx_load rfl rfl (fun K hK => ?_); go_simp; refine hK _ ?_; clear hK K
    refine wpFx_pure rfl (fun K hK => ?_); go_simp; refine hK _ ?_; clear hK K
    refine wpFx_pure rfl (fun K hK => ?_); go_simp; refine hK _ ?_; clear hK K
    refine wpFx_load rfl rfl (fun K hK => ?_); go_simp; refine hK _ ?_; clear hK K
    refine wpFx_es rfl rfl (fun K hK => ?_); go_simp
    refine (rt_age ix gen h3.ref).mono ?_
    rintro e w4 ⟨rfl, hp⟩
    have h4 := h3.right hp
    have hA4 := hA3.upd hp.2 fr2
    refine hK _ _ (hCi _ (hA4.cell (i := 1) rfl) (hA4.cell (i := 2) rfl)) ?_; clear hK K
    clear hp h3 hA3
    refine wpFx_pure rfl (fun K hK => ?_); go_simp; refine hK _ ?_; clear hK K
    refine wpFx_pure rfl (fun K hK => ?_); go_simp; refine hK _ ?_; clear hK K
    refine wpFx_nil ?_
    go_wp2_with fail
    go_ret
    exact ⟨rfl, _, h4⟩

/-! ### same -/

set_option maxHeartbeats 1000000 in
set_option maxRecDepth 100000 in
theorem same_ok {w : World} {base1 base2 n : Nat} {v1 v2 : Value} {l : List (Nat × Nat)} (h1 : Own w base1 30 2 v1 n (hcells l)) (h2 : Own w base2 30 2 v2 n (hcells l)) (hn : n = l.length) :
    Calls Try.prog 20 #[v1, v2] w fun e w' => e = .returned (.bool true) ∧ Upd [] w w' := by
  subst hn
  obtain ⟨a1, c1, rfl⟩ := h1.shape
  obtain ⟨a2, c2, rfl⟩ := h2.shape
  go_enter Try.func20, Try.ntmps20
  go_wp2_with fail
  go_loopw [5] (fun i wr => ∃ k : Nat, k ≤ l.length ∧ i = .int .i64 k ∧ ∃ m, wr = w.drewN m) (fun i _ => l.length - (intOf i).toNat)
  case atStart => exact ⟨0, Nat.zero_le _, rfl, 0, rfl⟩
  case round =>
    obtain ⟨k, hk, rfl, m, rfl⟩ := hrel
    by_cases hlt : k < l.length
    · obtain ⟨g1, o1, c1', pre1, rest1, hv1, _, _, _, _, hnc, hcm⟩ := h1.blk (by intro h; injection h with _ h; omega)
      cases hv1
      have hm63 : l.length ≤ 9223372036854775807 := by unfold maxLen at hcm; omega
      clear hnc hcm
      obtain ⟨g2, o2, c2', pre2, rest2, hv2, _, _, _, _, _, _⟩ := h2.blk (by intro h; injection h with _ h; omega)
      cases hv2
      obtain ⟨p, hp⟩ : ∃ p, l[k]? = some p := ⟨l[k], List.getElem?_eq_getElem (by omega)⟩
      obtain ⟨q0, q1⟩ := hcells_at hp
      have x0 := h1.cell rfl q0
      have x1 := h1.cell rfl q1
      have y0 := h2.cell rfl q0
      have y1 := h2.cell rfl q1
      rw [← Nat.add_assoc] at x1 y1
      have e1 : (⟨g1, o1, none⟩ : Addr).add (k * 2) = ⟨g1, o1 + k * 2, none⟩ := addr_add _ _ _
      have e2 : (⟨g2, o2, none⟩ : Addr).add (k * 2) = ⟨g2, o2 + k * 2, none⟩ := addr_add _ _ _
      clear hp q0 q1
      go_wp2_with fail
      go_quiet (fail)
      go_wp2_with fail
      go_roundw
      case rel => exact ⟨k + 1, hlt, by go_num, _, rfl⟩
      case measure => simp [intOf]; omega
    · obtain rfl : k = l.length := by omega
      go_wp2_with fail
      go_ret
      exact ⟨rfl, (Upd.refl _ _).drewN _⟩

end Go.Proofs.Ytfejlokinopjbaa
