/- TopCaches: the whole call, for every text and every number. -/
import Derived.Test.YtnllmelmmcapcaaGreatDoorCaX
import Derived.Test.YtnllmelmmcapcaaGreatDoorCaS
import Derived.KernelRfl
namespace Go.Proofs.YtnllmelmmcapcaaGreatDoor.Ev
open Go Go.RowKit
set_option linter.unusedVariables false
set_option maxRecDepth 100000

/-! ### The answer is made -/

noncomputable def bodyA (L : Nat) : AV := .str ((List.range L).map (· + 261))
noncomputable def kB2 (L : Nat) (g : Bool) : Option Unit :=
  evN 99 (nthC 6 cT) (mkTr [(0, bodyA L), (1, .age g), (6, .ptr bx 0)]) .lf nh (nrm fun tm H n => chkM [(6, .ptr bx 0), (8, .str (allC L g))] tm (cond (Nat.ble n (nh + 20)) (some ()) none))
theorem vB2_all : ((List.range 41).all fun L => (kB2 L false).isSome && (kB2 L true).isSome) = true := by kernel_rfl
theorem vB2 {L : Nat} (hL : L ≤ 40) (g : Bool) : kB2 L g = some () := by
  have := List.all_eq_true.1 vB2_all L (by simp; omega)
  rw [Bool.and_eq_true] at this
  cases g
  · exact bts this.1
  · exact bts this.2

/-! ### What the unknown is -/

/-- The digits and the bytes; nothing else is known. -/
def envB (bs : List UInt8) (a2 : Fin 80) (a3 : Fin 20) (any : Nat → Value) : Env := ⟨fun _ => 0, fun _ => 0, fun _ => 0, fun j => bs.getD j 0, a2, a3, any, fun _ => none⟩
theorem byte_any (bs : List UInt8) (a2 : Fin 80) (a3 : Fin 20) (x y : Nat → Value) : Env.byte (envB bs a2 a3 x) = Env.byte (envB bs a2 a3 y) := by
  funext j
  match j with
  | 0 => rfl
  | 1 => rfl
  | 2 => rfl
  | 3 => rfl
  | 4 => rfl
  | j + 5 => rfl
theorem conc_str {ρ ρ' : Env} (h : ρ'.byte = ρ.byte) (l : List Nat) : conc ρ' (.str l) = conc ρ (.str l) := by
  have hb : byteC ρ' = byteC ρ := by funext c; unfold byteC; rw [h]
  simp only [conc, hb]

theorem body_conc (b : ByteArray) (a2 : Fin 80) (a3 : Fin 20) (x : Nat → Value) : conc (envB b.data.toList a2 a3 x) (bodyA b.size) = .string b := by
  unfold bodyA
  simp only [conc, List.map_map]
  have e : (List.range b.size).map (byteC (envB b.data.toList a2 a3 x) ∘ fun i => i + 261) = b.data.toList := by
    apply List.ext_getElem
    · rw [List.length_map, List.length_range]; rfl
    · intro i h1 h2
      simp only [List.getElem_map, List.getElem_range, Function.comp]
      unfold byteC
      rw [if_neg (by omega), show i + 261 - 256 = i + 5 by omega]
      show b.data.toList.getD i 0 = _
      rw [List.getD_eq_getElem?_getD, List.getElem?_eq_getElem h2]; rfl
  rw [e]

theorem getL {l : List (Nat × AV)} {i : Nat} {x : AV} (h : (mkTr l).get i = some x) : (i, x) ∈ l := mkTr_get l h

theorem caches_ev (hV1 : ∀ L, L ≤ 40 → ∀ g, kV1 L g = some ()) (hV2 : ∀ L, L ≤ 40 → ∀ g, kV2 L g = some ()) (hF : ∀ L, L ≤ 40 → ∀ g, kF L g = some ()) (hU1 : ∀ x, kU1 x = some (inT (tlD x), inT tlR3, inT (S3 x), n3)) (hU2 : ∀ x, kU2 x = some (inT (tlE x), [], inT (S5 x), n5)) (hA : kA = some ())
    (b0 : ByteArray) (v0 : Int) (w : World) (hG : GlobOk GT w) : Calls Tryz.prog 3 #[.string b0, .int .i64 v0] w fun e w' => e = .returned (.bool true) ∧ Upd [] w w' := by
  have hbs := cut40_size b0
  have har := among_range v0 100 (by omega)
  generalize hL : (cut40 b0).size = L at hbs
  obtain ⟨A, hAe⟩ : ∃ A : Nat, 20 + among v0 100 = (A : Int) := ⟨(20 + among v0 100).toNat, by omega⟩
  have hA1 : 20 ≤ A := by omega
  have hA2 : A ≤ 119 := by omega
  obtain ⟨g, a2, a3, hage⟩ : ∃ (g : Bool) (a2 : Fin 80) (a3 : Fin 20), A = cond g (100 + a3.val) (20 + a2.val) := by
    by_cases h : A < 100
    · exact ⟨false, ⟨A - 20, by omega⟩, 0, by simp only [cond_false]; omega⟩
    · exact ⟨true, 0, ⟨A - 100, by omega⟩, by simp only [cond_true]; omega⟩
  -- what is unknown
  generalize hx : (fun j : Nat => match j with | 0 => conc (envB (cut40 b0).data.toList a2 a3 fun _ => .nilFunc) (.str (allC L g)) | 1 => Value.string (cut40 b0) | 2 => Value.int .i64 (A : Int) | _ => .nilFunc) = x
  have hx0 : x 0 = conc (envB (cut40 b0).data.toList a2 a3 x) (.str (allC L g)) := by
    rw [conc_str (byte_any _ _ _ x (fun _ => .nilFunc))]
    exact (congrFun hx 0).symm
  have hx1 : x 1 = .string (cut40 b0) := (congrFun hx 1).symm
  have hx2 : x 2 = .int .i64 (A : Int) := (congrFun hx 2).symm
  generalize hρ : envB (cut40 b0).data.toList a2 a3 x = ρ
  have hany : ρ.any = x := by rw [← hρ]; rfl
  have hfr : ∀ g, ρ.fr g = none := fun g => by rw [← hρ]; rfl
  have hρage : ρ.age g = A := by rw [← hρ, hage]; cases g <;> rfl
  have hbody : conc ρ (bodyA L) = .string (cut40 b0) := by rw [← hρ, ← hL]; exact body_conc _ _ _ _
  have hall : conc ρ (.str (allC L g)) = x 0 := by rw [hx0, hρ]
  -- the pieces up to where the answer comes
  have hA : evA tlH tlI nh (tl1 (.any 0)) S1 n1 = some () := hA
  obtain ⟨t3, H3, m3, h, d3⟩ := evN_nrm hA
  obtain ⟨t4, H4, m4, h, d4⟩ := evN_nrm h
  obtain ⟨t5, H5, m5, h, d5⟩ := evN_nrm h
  obtain ⟨h, sH⟩ := chkM_ok h
  obtain ⟨hm5, hC⟩ := chkN_ok h
  clear h
  subst hm5
  obtain ⟨t7, H7, m7, h, d7⟩ := evN_nrm hC
  obtain ⟨t8, H8, m8, h, d8⟩ := evN_nrm h
  obtain ⟨t9, H9, m9, h, d9⟩ := evN_nrm h
  obtain ⟨t10, H10, m10, h, d10⟩ := evN_nrm h
  obtain ⟨t11, H11, m11, h, d11⟩ := evN_nrm h
  obtain ⟨h, s1⟩ := chkM_ok h
  obtain ⟨h, sS⟩ := chkH_ok h
  obtain ⟨hm11, _⟩ := chkN_ok h
  clear h
  subst hm11
  have d11 := d11.post s1 sS
  obtain ⟨t6, H6, m6, h, d6⟩ := evN_nrm (vB2 hbs g)
  obtain ⟨h, s6⟩ := chkM_ok h
  obtain ⟨hm6, _⟩ := cond_some h
  have hm6 := ble_le hm6
  clear h
  obtain ⟨tE, HE, mE, dE, hE⟩ := late (hV1 L hbs g) (hU1 (varX L g)) (hV2 L hbs g) (hU2 (varX L g)) (hF L hbs g)
  -- the run
  refine calls_of_wp Tryz.func3 cT_eq ?_
  have hst : St { tmps := #[.string b0, .int .i64 v0] ++ Array.replicate (Tryz.f3.ntmps - 2) undef, defers := [] } b0 v0 := by
    have hn : Tryz.f3.ntmps = 99 := by rfl
    exact ⟨by rw [hn]; simp, rfl, by simp, by simp⟩
  refine wp_seq (p0_wp hst fun a1 hst => ?_)
  refine wp_seq (p1_wp hst fun a2' hst => ?_)
  refine wp_seq (p2_wp hst fun a3' hst => ?_)
  rw [hAe] at hst
  have hR0 : Rep ρ .lf 0 w w := ⟨fun b B hb => (by simp [Tr.get] at hb), fun b B hb => (by simp [Tr.get] at hb), fun b B hb => (by simp [Tr.get] at hb), fun b B hb => (by simp [Tr.get] at hb), fun b b' B B' hb => (by simp [Tr.get] at hb), Upd.refl _ _,
    fun g o hg => (by rw [hfr] at hg; cases hg), fun b B hb => (by simp [Tr.get] at hb)⟩
  have hT0 : RepT ρ 0 99 (mkTr [(0, .any 1), (1, .any 2)]) a3' := ⟨hst.size, hst.defers, fun t v hv => by
    have := getL hv
    simp only [List.mem_cons, Prod.mk.injEq, List.not_mem_nil, or_false] at this
    rcases this with ⟨rfl, rfl⟩ | ⟨rfl, rfl⟩
    · exact ⟨by simp [AV.lt], by simp only [conc, hany, hx1]; exact hst.t0⟩
    · exact ⟨by simp [AV.lt], by simp only [conc, hany, hx2]; exact hst.t1⟩⟩
  show Code.wp _ (dropC 3 cT) _ _ _
  rw [c3_eq]
  refine wp_seq (wp_mono (d3 ρ w a3' w hG hT0 hR0) fun e a w3 hq => ?_)
  obtain ⟨rfl, ρ3, q3, l3, hT3, hR3⟩ := hq
  refine wp_seq (wp_mono (d4 ρ3 w a w3 hG hT3 hR3) fun e a w4 hq => ?_)
  obtain ⟨rfl, ρ4, q4, l4, hT4, hR4⟩ := hq
  refine wp_seq (wp_mono (d5 ρ4 w a w4 hG hT4 hR4) fun e a w5 hq => ?_)
  obtain ⟨rfl, ρ5, q5, l5, hT5, hR5⟩ := hq
  have hT5 := hT5.sub sH
  have e5 : Ext 0 ρ ρ5 := (q3.trans l3 ((q4.trans l4 q5).less (Nat.zero_le _) |>.less (Nat.le_refl _) |> fun z => (by
    exact (q4.trans l4 q5).less (Nat.le_refl _)))).less (Nat.zero_le _)
  have hany5 : ρ5.any = x := e5.any.trans hany
  have hbody5 : conc ρ5 (bodyA L) = .string (cut40 b0) := by unfold bodyA at hbody ⊢; rw [conc_str e5.byte]; exact hbody
  have hall5 : conc ρ5 (.str (allC L g)) = x 0 := by rw [conc_str e5.byte]; exact hall
  have g0 : (mkTr tlH).get 0 = some (.any 1) := by simp [← getO_eq]; kernel_rfl
  have g1 : (mkTr tlH).get 1 = some (.any 2) := by simp [← getO_eq]; kernel_rfl
  have g6 : (mkTr tlH).get 6 = some (.ptr bx 0) := by simp [← getO_eq]; kernel_rfl
  have hT6 : RepT ρ5 nh 99 (mkTr [(0, bodyA L), (1, .age g), (6, .ptr bx 0)]) a := ⟨hT5.size, hT5.defers, fun t v hv => by
    have := getL hv
    simp only [List.mem_cons, Prod.mk.injEq, List.not_mem_nil, or_false] at this
    rcases this with ⟨rfl, rfl⟩ | ⟨rfl, rfl⟩ | ⟨rfl, rfl⟩
    · refine ⟨by simp [AV.lt, bodyA], ?_⟩
      have := (hT5.tmp 0 _ g0).2
      simp only [conc, hany5, hx1] at this
      rw [hbody5]; exact this
    · refine ⟨by simp [AV.lt], ?_⟩
      have := (hT5.tmp 1 _ g1).2
      simp only [conc, hany5, hx2] at this
      simp only [conc, e5.age, hρage]; exact this
    · exact hT5.tmp 6 _ g6⟩
  have hR6 : Rep ρ5 .lf nh w5 w5 := ⟨fun b B hb => (by simp [Tr.get] at hb), fun b B hb => (by simp [Tr.get] at hb), fun b B hb => (by simp [Tr.get] at hb), fun b B hb => (by simp [Tr.get] at hb), fun b b' B B' hb => (by simp [Tr.get] at hb), Upd.refl _ _,
    fun g o hg => (by rw [e5.fr, hfr] at hg; cases hg), fun b B hb => (by simp [Tr.get] at hb)⟩
  refine wp_seq (wp_mono (d6 ρ5 w5 a w5 (hG.later rfl hR5.upd) hT6 hR6) fun e a w6 hq => ?_)
  obtain ⟨rfl, ρ6, q6, l6, hT6', hR6'⟩ := hq
  have hT6' := (hT6'.sub s6).more hm6
  have e6 : Ext 0 ρ ρ6 := e5.trans (Nat.zero_le _) q6
  have hany6 : ρ6.any = x := e6.any.trans hany
  have hall6 : conc ρ6 (.str (allC L g)) = x 0 := by rw [conc_str e6.byte]; exact hall
  have hR7 : Rep ρ6 H5 (nh + 20) w w6 := (hR5.low hR6'.upd).ext q6 (by omega)
  have k6 : (mkTr [(6, AV.ptr bx 0), (8, .str (allC L g))]).get 6 = some (.ptr bx 0) := by simp [← getO_eq]; rfl
  have k8 : (mkTr [(6, AV.ptr bx 0), (8, .str (allC L g))]).get 8 = some (.str (allC L g)) := by simp [← getO_eq]; rfl
  have hT7 : RepT ρ6 (nh + 20) 99 (mkTr tlI) a := ⟨hT6'.size, hT6'.defers, fun t v hv => by
    have := getL hv
    simp only [tlI, List.mem_cons, Prod.mk.injEq, List.not_mem_nil, or_false] at this
    rcases this with ⟨rfl, rfl⟩ | ⟨rfl, rfl⟩
    · exact hT6'.tmp 6 _ k6
    · refine ⟨by simp [AV.lt], ?_⟩
      have := (hT6'.tmp 8 _ k8).2
      rw [hall6] at this
      simp only [conc, hany6]; exact this⟩
  refine wp_seq (wp_mono (d7 ρ6 w a w6 hG hT7 hR7) fun e a w7 hq => ?_)
  obtain ⟨rfl, ρ7, q7, l7, hT7, hR7⟩ := hq
  refine wp_seq (wp_mono (d8 ρ7 w a w7 hG hT7 hR7) fun e a w8 hq => ?_)
  obtain ⟨rfl, ρ8, q8, l8, hT8, hR8⟩ := hq
  refine wp_seq (wp_mono (d9 ρ8 w a w8 hG hT8 hR8) fun e a w9 hq => ?_)
  obtain ⟨rfl, ρ9, q9, l9, hT9, hR9⟩ := hq
  refine wp_seq (wp_mono (d10 ρ9 w a w9 hG hT9 hR9) fun e a w10 hq => ?_)
  obtain ⟨rfl, ρ10, q10, l10, hT10, hR10⟩ := hq
  refine wp_seq (wp_mono (d11 ρ10 w a w10 hG hT10 hR10) fun e a w11 hq => ?_)
  obtain ⟨rfl, ρ11, q11, l11, hT11, hR11⟩ := hq
  have e11 : Ext 0 ρ ρ11 := e6.trans (Nat.zero_le _) ((((q7.less (Nat.zero_le _)).trans (Nat.zero_le _) (q8.less (Nat.zero_le _))).trans (Nat.zero_le _) (q9.less (Nat.zero_le _))).trans (Nat.zero_le _) ((q10.less (Nat.zero_le _)).trans (Nat.zero_le _) (q11.less (Nat.zero_le _))))
  have hany11 : ρ11.any = x := e11.any.trans hany
  have hall11 : conc ρ11 (.str (allC L g)) = x 0 := by rw [conc_str e11.byte]; exact hall
  have j6 : (mkTr (tl1 (.any 0))).get 6 = some (.ptr bx 0) := by simp [← getO_eq]; kernel_rfl
  have j8 : (mkTr (tl1 (.any 0))).get 8 = some (.any 0) := by simp [← getO_eq]; kernel_rfl
  have j9 : (mkTr (tl1 (.any 0))).get 9 = some askV := by simp [← getO_eq]; kernel_rfl
  have hT12 : RepT ρ11 n1 99 (mkTr (tl1 (.str (allC L g)))) a := ⟨hT11.size, hT11.defers, fun t v hv => by
    have := getL hv
    simp only [tl1, List.mem_cons, Prod.mk.injEq, List.not_mem_nil, or_false] at this
    rcases this with ⟨rfl, rfl⟩ | ⟨rfl, rfl⟩ | ⟨rfl, rfl⟩
    · exact hT11.tmp 6 _ j6
    · refine ⟨by simp [AV.lt], ?_⟩
      have := (hT11.tmp 8 _ j8).2
      simp only [conc, hany11] at this
      rw [hall11]; exact this
    · exact hT11.tmp 9 _ j9⟩
  refine wp_mono (dE ρ11 w a w11 hG hT12 hR11) fun e a wE hq => ?_
  obtain ⟨rfl, ρE, qE, lE, hTE, hRE⟩ := hq
  have hres : (results Tryz.f3 a.tmps).run Tryz.prog wE = .ok (.bool true) wE := by
    have := run_results (P := Tryz.prog) (fn := Tryz.f3) (tmps := a.tmps) (w := wE) (ys := [.bool true]) (by rfl) (fun i x y hx hy => by
      have hl : Tryz.f3.results.toList = [.tmp 4] := by rfl
      rw [hl] at hx
      match i, hx, hy with
      | 0, hx, hy =>
        simp only [List.getElem?_cons_zero, Option.some.injEq] at hx hy
        subst hx hy
        have := (hTE.tmp 4 _ hE).2
        simp [resV, Array.getD_eq_getD_getElem?, this, conc])
    simpa using this
  exact ⟨hTE.defers, _, hres, rfl, hRE.upd⟩
end Go.Proofs.YtnllmelmmcapcaaGreatDoor.Ev
