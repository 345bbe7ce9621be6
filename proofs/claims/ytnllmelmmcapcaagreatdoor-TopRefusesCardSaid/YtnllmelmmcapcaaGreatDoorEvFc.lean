/- Regions in which a block is made beside a call: the check is right. -/
import Derived.Test.YtnllmelmmcapcaaGreatDoorEvFb
namespace Go.Proofs.YtnllmelmmcapcaaGreatDoor.Ev
open Go Go.RowKit
set_option linter.unusedVariables false

section
variable {P : Program} {ops : Array Oper}

theorem Lies.eq {is : List Inf} {x y : It} (hx : Lies P ops is x) (hy : Lies P ops is y) (h : x.k = y.k) : x = y := by
  obtain ⟨k, o, a⟩ := x
  obtain ⟨k', o', a'⟩ := y
  simp only at h
  subst h
  have h1 := hx.o
  have h2 := hy.o
  have h3 := hx.a
  have h4 := hy.a
  simp only at h1 h2 h3 h4
  rw [h1] at h2
  rw [h3] at h4
  cases h2; cases h4
  rfl

theorem sub_of {a b : Nat} (h : ∀ k, a.testBit k = true → b.testBit k = true) : subM a b = true := by
  unfold subM
  have : Nat.land a b = a := by
    show a &&& b = a
    apply Nat.eq_of_testBit_eq
    intro k
    rw [Nat.testBit_and]
    cases e : a.testBit k with
    | false => rfl
    | true => rw [h k e]; rfl
  rw [this]
  exact Nat.beq_refl a

theorem floatCls_ok {fl : Fl} (h : floatCls P ops = some fl) : ∃ X listed, FlOk P ops fl X listed := by
  unfold floatCls at h
  obtain ⟨is, h, hlen, hall⟩ := infL_ok _ _ h
  have hlen' : is.length = ops.size := by rw [hlen]; simp
  generalize hits : zipI ops.toList 0 is = its at h
  have lies : ∀ x ∈ its, Lies P ops is x := fun x hx => by
    rw [← hits] at hx
    obtain ⟨j, h1, h2, h3⟩ := mem_zipI _ _ _ _ hx
    rw [Nat.zero_add] at h1
    refine ⟨by rw [h1]; simpa using h2, by rw [h1]; exact h3, ?_⟩
    have := hall j x.o x.a h2 h3
    rw [h1]
    simpa using this
  split at h
  · rename_i c hc
    split at h
    · rename_i a ha
      split at h
      · rename_i dc da hdc hda
        obtain ⟨hc1, hc2⟩ := fstI_some hc
        obtain ⟨ha1, ha2⟩ := fstI_some ha
        cases hdd : Nat.beq dc da with
        | true => rw [hdd] at h; cases h
        | false =>
        rw [hdd, cond_false] at h
        obtain ⟨hB, h⟩ := cond_some h
        generalize hp1 : filI (inP1 c.k a.k) its = p1 at h hB
        generalize hp3 : filI (inP3 c.k a.k) its = p3 at h hB
        cases h
        unfold flB at hB
        obtain ⟨b1, hB⟩ := cond_t hB
        obtain ⟨b2, hB⟩ := cond_t hB
        obtain ⟨b3, hB⟩ := cond_t hB
        obtain ⟨b4, hB⟩ := cond_t hB
        have hB : cond (tb (bitsI p1 0) c.k) false
          (cond (ordB [] (a :: p3) (Nat.lor (bitsI p1 0) (Nat.pow 2 c.k)))
          (cond (ordB [] (c :: p3) (Nat.lor (bitsI p1 0) (Nat.pow 2 a.k)))
          (cond (Nat.beq (bitsI (c :: a :: appI p1 p3) 0) (Nat.sub (Nat.pow 2 (List.length ops.toList)) 1))
          (cond (Nat.beq (Nat.add (List.length p1) (Nat.succ (Nat.succ (List.length p3)))) (List.length ops.toList))
          (cond (Nat.beq c.k a.k) false true) false) false) false) false) = true := hB
        cases b5 : tb (bitsI p1 0) c.k with
        | true => rw [b5] at hB; cases hB
        | false =>
        rw [b5, cond_false] at hB
        obtain ⟨b6, hB⟩ := cond_t hB
        obtain ⟨b7, hB⟩ := cond_t hB
        obtain ⟨b8, hB⟩ := cond_t hB
        obtain ⟨b9, hB⟩ := cond_t hB
        have hca : c.k ≠ a.k := by
          cases e : Nat.beq c.k a.k with
          | true => rw [e] at hB; cases hB
          | false => exact beq_ne' e
        have m1 : ∀ x, x ∈ p1 ↔ x ∈ its ∧ inP1 c.k a.k x = true := fun x => by rw [← hp1]; exact mem_filI
        have m3 : ∀ x, x ∈ p3 ↔ x ∈ its ∧ inP3 c.k a.k x = true := fun x => by rw [← hp3]; exact mem_filI
        have c1 : ∀ x ∈ p1, x.a.c < 2 := fun x hx => by
          have := ((m1 x).1 hx).2
          unfold inP1 at this
          cases e : Nat.ble 2 x.a.c with
          | true => rw [e] at this; cases this
          | false =>
            rcases Nat.lt_or_ge x.a.c 2 with h | h
            · exact h
            · have h : 2 ≤ x.a.c := h
              rw [← Nat.ble_eq, e] at h; cases h
        have c3 : ∀ x ∈ p3, x.k ≠ c.k ∧ x.k ≠ a.k := fun x hx => by
          have := ((m3 x).1 hx).2
          unfold inP3 at this
          cases e : Nat.beq x.k c.k with
          | true => rw [e] at this; cases this
          | false =>
            rw [e, cond_false] at this
            cases e2 : Nat.beq x.k a.k with
            | true => rw [e2] at this; cases this
            | false => exact ⟨beq_ne' e, beq_ne' e2⟩
        have ca2 : 2 ≤ a.a.c := by
          cases e : Nat.ble 2 a.a.c with
          | true => exact ble_le e
          | false => rw [e] at ha2; cases ha2
        have cc2 : 2 ≤ c.a.c := ble_le hc2
        have inIts : ∀ x, x = c ∨ x = a ∨ x ∈ p1 ∨ x ∈ p3 → x ∈ its := by
          rintro x (rfl | rfl | hx | hx)
          · exact hc1
          · exact ha1
          · exact ((m1 x).1 hx).1
          · exact ((m3 x).1 hx).1
        generalize hX : (⟨[c.k, a.k], (p3.filter fun x => decide (2 ≤ x.a.c)).map It.k, (p1.filter fun x => decide (x.a.c = 1)).map It.k, (is.map Inf.bf).toArray⟩ : Fx) = X
        have es : ∀ k, X.es.contains k = true ↔ k = c.k ∨ k = a.k := fun k => by rw [← hX]; simp
        have et : ∀ k, X.et.contains k = true ↔ ∃ x ∈ p3, 2 ≤ x.a.c ∧ x.k = k := fun k => by
          rw [← hX]; simp [and_assoc]
        have ls : ∀ k, X.ls.contains k = true ↔ ∃ x ∈ p1, x.a.c = 1 ∧ x.k = k := fun k => by
          rw [← hX]; simp [and_assoc]
        have MM : ∀ (i : Nat) v, is[i]? = some v → X.M.getD i 0 = v.bf := fun i v hv => by
          rw [← hX]; simp [Array.getD_eq_getD_getElem?, hv]
        have hbf : ∀ x, Lies P ops is x → X.M.getD x.k 0 = x.a.bf := fun x hx => MM _ _ hx.a
        have eff : ∀ x ∈ its, (X.eff x.k = true ↔ 2 ≤ x.a.c) := fun x hx => by
          unfold Fx.eff
          rw [Bool.or_eq_true, es, et]
          constructor
          · rintro ((h | h) | ⟨y, hy, h1, h2⟩)
            · rw [(lies x hx).eq (lies c hc1) h]; exact cc2
            · rw [(lies x hx).eq (lies a ha1) h]; exact ca2
            · rw [(lies x hx).eq (lies y ((m3 y).1 hy).1) h2.symm]; exact h1
          · intro h
            by_cases e1 : x.k = c.k
            · exact .inl (.inl e1)
            by_cases e2 : x.k = a.k
            · exact .inl (.inr e2)
            refine .inr ⟨x, (m3 x).2 ⟨hx, ?_⟩, h, rfl⟩
            have n1 : Nat.beq x.k c.k = false := by cases e : Nat.beq x.k c.k with | true => exact absurd (beq_eq' e) e1 | false => rfl
            have n2 : Nat.beq x.k a.k = false := by cases e : Nat.beq x.k a.k with | true => exact absurd (beq_eq' e) e2 | false => rfl
            have n3 : Nat.ble 2 x.a.c = true := by rw [Nat.ble_eq]; exact h
            unfold inP3 inP1
            rw [n1, n2, n3]; rfl
        have hn : List.length ops.toList = ops.size := by simp
        rw [hn] at b8 b9
        have klt : ∀ x ∈ its, x.k < ops.size := fun x hx => (Array.getElem?_eq_some_iff.1 (lies x hx).o).1
        have M0 : Masks ops.size 0 (Array.replicate ops.size false) := ⟨by simp, fun j hj => by simp [hj], fun j hj => by simp at hj⟩
        have M1 := Masks.all p1 0 _ M0 (fun x hx => klt x (inIts x (.inr (.inr (.inl hx)))))
        have cover : ∀ j, j < ops.size → ∃ x, (x = c ∨ x = a ∨ x ∈ p1 ∨ x ∈ p3) ∧ x.k = j := fun j hj => by
          have e := beq_eq' b8
          have : (bitsI (c :: a :: appI p1 p3) 0).testBit j = true := by
            rw [e]
            show (2 ^ ops.size - 1).testBit j = true
            rw [Nat.testBit_two_pow_sub_one]; simpa using hj
          rw [bitsI_bit] at this
          rcases this with h | ⟨x, hx, hk⟩
          · simp at h
          · rw [appI_eq] at hx
            simp only [List.mem_cons, List.mem_append] at hx
            exact ⟨x, by rcases hx with h | h | h | h <;> simp [h], hk⟩
        have all1 : ∀ x ∈ its, x.o.guard = none ∧ x.a.c < 4 := fun x hx => by
          obtain ⟨g1, g2⟩ := cond_t (allT_ok b1 x hx)
          refine ⟨?_, blt_lt g2⟩
          unfold noG at g1
          split at g1
          · assumption
          · cases g1
        have chk3 : ∀ y ∈ p3, subM y.a.em (bitsI p1 0) = false ∧ y.a.c ≠ 1 ∧ (2 ≤ y.a.c → ∀ x ∈ p1, x.a.c = 1 → tb y.a.bf x.k = true) := fun y hy => by
          have h := allT_ok b3 y hy
          cases e1 : subM y.a.em (bitsI p1 0) with
          | true => rw [e1] at h; cases h
          | false =>
            rw [e1, cond_false] at h
            cases e2 : Nat.beq y.a.c 1 with
            | true => rw [e2] at h; cases h
            | false =>
              rw [e2, cond_false] at h
              refine ⟨rfl, beq_ne' e2, fun h2 x hx hx1 => ?_⟩
              have e3 : Nat.ble 2 y.a.c = true := by rw [Nat.ble_eq]; exact h2
              rw [e3, cond_true] at h
              have := allT_ok h x hx
              rw [hx1] at this
              exact this
        have lz : ∀ l : List It, (∀ x ∈ l, x = c ∨ x = a ∨ x ∈ p1 ∨ x ∈ p3) → ∀ x ∈ l, Lies P ops is x ∧ (X.eff x.k = true ↔ 2 ≤ x.a.c) := fun l hl x hx =>
          ⟨lies x (inIts x (hl x hx)), eff x (inIts x (hl x hx))⟩
        refine ⟨X, setAll (Array.replicate ops.size false) p1, ⟨?_, ?_, ?_, ?_, hdc, hda, beq_ne' hdd, (eff c hc1).2 cc2, (eff a ha1).2 ca2, ?_, ?_, ?_, rfl, ?_, ?_, ?_, ?_, cover, ?_⟩⟩
        · intro j oj hj k hk
          obtain ⟨x, hx, rfl⟩ := cover j (Array.getElem?_eq_some_iff.1 hj).1
          have hx' := lies x (inIts x hx)
          rw [hbf x hx'] at hk
          have hxo := hx'.o
          rw [hj] at hxo
          cases hxo
          obtain ⟨e, he, hb, h1⟩ := hx'.ok.bf k hk
          refine ⟨e, he, hb, h1.imp id fun h1 => ?_⟩
          rw [List.getD_eq_getElem?_getD, List.getElem?_map, List.getElem?_take] at h1
          split at h1
          · cases hv : is[e.on]? with
            | none => rw [hv] at h1; simp at h1
            | some v => rw [MM _ v hv]; rw [hv] at h1; simpa using h1
          · simp at h1
        · intro i e hi he
          obtain ⟨x, hx, hx1, rfl⟩ := (ls i).1 hi
          obtain ⟨y, hy, hy1, rfl⟩ := (et e).1 he
          rw [hbf y (lies y ((m3 y).1 hy).1)]
          exact tb_bit ((chk3 y hy).2.2 hy1 x hx hx1)
        · intro j o cs b hj hs
          obtain ⟨x, hx, rfl⟩ := cover j (Array.getElem?_eq_some_iff.1 hj).1
          have hx' := lies x (inIts x hx)
          have hxo := hx'.o
          rw [hj] at hxo
          cases hxo
          have h1 := (all1 x (inIts x hx)).2
          rw [hx'.ok.c, hs] at h1
          simp [opCls] at h1
        · intro x hx
          exact ⟨(lies x (inIts x hx)).o, (all1 x (inIts x hx)).1, (lies x (inIts x hx)).ok.c⟩
        · intro x hx
          have hxi := inIts x (.inr (.inr (.inl hx)))
          have hc := c1 x hx
          refine ⟨?_, ?_⟩
          · cases e : X.eff x.k with
            | false => rfl
            | true => have := (eff x hxi).1 e; omega
          · rcases Nat.lt_or_ge x.a.c 1 with h | h
            · refine .inl ⟨by omega, ?_⟩
              cases e : X.ls.contains x.k with
              | false => rfl
              | true =>
                obtain ⟨y, hy, hy1, hy2⟩ := (ls x.k).1 e
                rw [(lies y ((m1 y).1 hy).1).eq (lies x hxi) hy2] at hy1
                omega
            · have h1 : x.a.c = 1 := by omega
              exact .inr ⟨h1, (ls x.k).2 ⟨x, hx, h1, rfl⟩⟩
        · intro x hx
          have hxi := inIts x (.inr (.inr (.inr hx)))
          rcases Nat.lt_or_ge x.a.c 2 with h | h
          · have h0 : x.a.c = 0 := by have := (chk3 x hx).2.1; omega
            refine .inl ⟨h0, ?_, ?_⟩
            · cases e : X.eff x.k with
              | false => rfl
              | true => have := (eff x hxi).1 e; omega
            · cases e : X.ls.contains x.k with
              | false => rfl
              | true =>
                obtain ⟨y, hy, hy1, hy2⟩ := (ls x.k).1 e
                rw [(lies y ((m1 y).1 hy).1).eq (lies x hxi) hy2] at hy1
                omega
          · refine .inr ⟨h, (eff x hxi).2 h, ?_⟩
            cases e : X.es.contains x.k with
            | false => rfl
            | true =>
              rcases (es x.k).1 e with e | e
              · exact absurd e (c3 x hx).1
              · exact absurd e (c3 x hx).2
        · exact ordB_ok hbf p1 0 _ (lz _ (fun x hx => by simp only [List.mem_append, List.mem_cons] at hx; rcases hx with h | h | h | h <;> simp [h])) M0 b2
        · exact ready_of M1 (lies c hc1) b4 b5
        · intro i hi
          obtain ⟨hun, o, ho, hed⟩ := mem_ready.1 hi
          have hil := (Array.getElem?_eq_some_iff.1 ho).1
          obtain ⟨x, hx, rfl⟩ := cover i hil
          rcases hx with rfl | rfl | hx | hx
          · exact .inl rfl
          · exact .inr rfl
          · exfalso
            rw [M1.get hil] at hun
            have : (bitsI p1 0).testBit x.k = true := (bitsI_bit _ _ _).2 (.inr ⟨x, hx, rfl⟩)
            rw [this] at hun; cases hun
          · exfalso
            have hx' := lies x ((m3 x).1 hx).1
            have hxo := hx'.o
            rw [ho] at hxo
            cases hxo
            have h1 := (chk3 x hx).1
            rw [sub_of fun k hk => ?_] at h1
            · cases h1
            · obtain ⟨e, he, hb, rfl⟩ := (hx'.ok.em k).1 hk
              have h2 := hed e he hb
              rcases Nat.lt_or_ge e.on ops.size with h3 | h3
              · rw [M1.get h3] at h2; exact h2
              · have : (setAll (Array.replicate ops.size false) p1).size ≤ e.on := by rw [M1.size]; exact h3
                simp [Array.getD_eq_getD_getElem?, Array.getElem?_eq_none this] at h2
        · exact ordB_ok hbf (a :: p3) _ _ (lz _ (fun x hx => by simp only [List.append_nil, List.mem_cons] at hx; rcases hx with h | h <;> simp [h])) (M1.set (klt c hc1)) b6
        · exact ordB_ok hbf (c :: p3) _ _ (lz _ (fun x hx => by simp only [List.append_nil, List.mem_cons] at hx; rcases hx with h | h <;> simp [h])) (M1.set (klt a ha1)) b7
        · have := beq_eq' b9
          show ops.size = p1.length + (p3.length + 1 + 1)
          exact this.symm
      · cases h
    · cases h
  · cases h
end
end Go.Proofs.YtnllmelmmcapcaaGreatDoor.Ev
