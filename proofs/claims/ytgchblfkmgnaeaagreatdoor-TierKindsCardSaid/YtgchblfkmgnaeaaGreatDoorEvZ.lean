/- The coin's region; the interpreter is sound. -/
import Derived.Test.YtgchblfkmgnaeaaGreatDoorEvY
set_option linter.unusedVariables false
set_option linter.unusedSimpArgs false
set_option linter.unusedSectionVars false
namespace Go.Ev

variable {P : Program} {val : Nat → Value} {ρ : Rho}

theorem noGam_ok : GamOk P val noGam := ⟨(fun _ _ _ h => by cases h), (fun _ _ _ _ h => by cases h)⟩
theorem noCall_ok : CallOk P val (fun _ _ _ => none) := fun _ _ _ _ _ h => by cases h
noncomputable abbrev env0 : Env := ⟨noGam, fun _ _ _ => none⟩

theorem one_wp (hval : ∀ i, (val i).oneCell' = true) {ops : Array Oper} {i N m : Nat} {prev : List Nat} {loc : List AV} {t : T} {h : Hp} {S : S} {o : Oper} {a : Act} {w : World} {K : Act → World → Prop} {Q : Exit → Act → World → Prop}
    (ho : ops[i]? = some o) (hg : o.guard = none) (hS : runStp (cStp P m prev (opnds o.op) (opK P o.op) (cKp m o.dst)) env0 loc t h = some S) (hG : Gl P ρ) (hs : Sr val ρ N m prev loc t a) (hR : R val ρ h.get h.next w)
    (hK : ∀ v ρ' u w', kp (cKp m o.dst) v loc t S.h = some S → V val ρ' v u → R val ρ' S.h.get S.h.next w' → Mv ρ h.get h.next w ρ' S.h.get S.h.next w' → K (a.put o.dst u) w') : wpOp P ops Q i K a w := by
  unfold wpOp
  rw [ho]
  simp only
  rw [if_pos (by simp [Region.wanted, hg])]
  refine .inl (stp_wp hval noGam_ok noCall_ok hG hs hR hS fun v h' ρ' u w' hk hV hR' hM => ?_)
  have hh := kp_h hk
  subst hh
  exact hK v ρ' u w' hk hV hR' hM

theorem wpAny_go {ops : Array Oper} {Q : Exit → Act → World → Prop} {fuel : Nat} {listed : Array Bool} {a : Act} {w : World} (hne : ∃ i, i ∈ Region.ready .any ops listed)
    (h : ∀ i ∈ Region.ready .any ops listed, wpOp P ops Q i (wpAny P .any ops Q fuel (listed.setIfInBounds i true)) a w) : wpAny P .any ops Q (fuel + 1) listed a w :=
  ⟨(fun e => by obtain ⟨i, hi⟩ := hne; rw [e] at hi; cases hi), h⟩

theorem bindsTo_some {o : Oper} {i : Nat} (h : bindsTo o i = true) : ∃ e ∈ o.after, Region.binds .any e = true ∧ e.on = i := by
  unfold bindsTo at h
  rw [List.any_eq_true] at h
  obtain ⟨e, he, hb⟩ := h
  simp only [Bool.and_eq_true, Nat.beq_eq] at hb
  exact ⟨e, by simpa using he, hb⟩
theorem backTo_all {o : Oper} {i : Nat} (h : backTo o i = true) : ∀ e ∈ o.after, Region.binds .any e = true → e.on < i := by
  unfold backTo at h
  rw [List.all_eq_true] at h
  intro e he hb
  have := h e (by simpa using he)
  rw [hb] at this
  simpa [Nat.blt_eq] using this

/-- The order of a coin's region. -/
theorem coin_orders {ops : Array Oper} {o0 o1 o2 o3 : Oper} {Q : Exit → Act → World → Prop} {a : Act} {w : World} (hl : ops.toList = [o0, o1, o2, o3]) (hE : coinEdges [o0, o1, o2, o3] = true)
    (hall : wpOp P ops Q 0 (fun a w => wpOp P ops Q 1 (wpOp P ops Q 2 (wpOp P ops Q 3 (Q .normal))) a w ∧ wpOp P ops Q 2 (wpOp P ops Q 1 (wpOp P ops Q 3 (Q .normal))) a w) a w) :
    wpAny P .any ops Q ops.size (Array.replicate ops.size false) a w := by
  obtain ⟨ops⟩ := ops
  simp only at hl
  subst hl
  simp only [coinEdges, Bool.and_eq_true] at hE
  obtain ⟨⟨⟨⟨⟨⟨⟨b0, b1⟩, b2⟩, b3⟩, c1⟩, c2⟩, c3⟩, c4⟩ := hE
  have b0 := backTo_all b0
  have b1 := backTo_all b1
  have b2 := backTo_all b2
  have b3 := backTo_all b3
  obtain ⟨e1, m1, k1, n1⟩ := bindsTo_some c1
  obtain ⟨e2, m2, k2, n2⟩ := bindsTo_some c2
  obtain ⟨e3, m3, k3, n3⟩ := bindsTo_some c3
  obtain ⟨e4, m4, k4, n4⟩ := bindsTo_some c4
  have four : ∀ {i : Nat} {o : Oper}, (#[o0, o1, o2, o3] : Array Oper)[i]? = some o → (i = 0 ∧ o = o0) ∨ (i = 1 ∧ o = o1) ∨ (i = 2 ∧ o = o2) ∨ (i = 3 ∧ o = o3) := by
    intro i o h
    match i with
    | 0 => simp at h; exact .inl ⟨rfl, h.symm⟩
    | 1 => simp at h; exact .inr (.inl ⟨rfl, h.symm⟩)
    | 2 => simp at h; exact .inr (.inr (.inl ⟨rfl, h.symm⟩))
    | 3 => simp at h; exact .inr (.inr (.inr ⟨rfl, h.symm⟩))
    | i + 4 => simp at h
  have last : ∀ a w, Q .normal a w → wpAny P .any #[o0, o1, o2, o3] Q 0 #[true, true, true, true] a w := by
    intro a w h
    refine ⟨?_, h⟩
    apply List.eq_nil_iff_forall_not_mem.2
    intro j hj
    obtain ⟨h1, o, h2, _⟩ := mem_ready.1 hj
    rcases four h2 with ⟨rfl, _⟩ | ⟨rfl, _⟩ | ⟨rfl, _⟩ | ⟨rfl, _⟩ <;> simp [Array.getD_eq_getD_getElem?] at h1
  have three : ∀ a w, wpOp P #[o0, o1, o2, o3] Q 3 (Q .normal) a w → wpAny P .any #[o0, o1, o2, o3] Q 1 #[true, true, true, false] a w := by
    intro a w h
    refine wpAny_go ⟨3, mem_ready.2 ⟨rfl, o3, rfl, fun e he hb => ?_⟩⟩ fun j hj => ?_
    · have := b3 e he hb
      match e.on, this with
      | 0, _ => rfl
      | 1, _ => rfl
      | 2, _ => rfl
    · obtain ⟨h1, o, h2, _⟩ := mem_ready.1 hj
      rcases four h2 with ⟨rfl, _⟩ | ⟨rfl, _⟩ | ⟨rfl, _⟩ | ⟨rfl, _⟩
      · simp [Array.getD_eq_getD_getElem?] at h1
      · simp [Array.getD_eq_getD_getElem?] at h1
      · simp [Array.getD_eq_getD_getElem?] at h1
      · exact wpOp_mono (fun a w h => last a w h) h
  refine wpAny_go ⟨0, mem_ready.2 ⟨rfl, o0, rfl, fun e he hb => absurd (b0 e he hb) (by omega)⟩⟩ fun j hj => ?_
  obtain ⟨h1, o, h2, h3⟩ := mem_ready.1 hj
  rcases four h2 with ⟨rfl, he⟩ | ⟨rfl, he⟩ | ⟨rfl, he⟩ | ⟨rfl, he⟩
  · refine wpOp_mono ?_ hall
    · rintro a w ⟨g1, g2⟩
      show wpAny P .any #[o0, o1, o2, o3] Q 3 #[true, false, false, false] a w
      refine wpAny_go ⟨1, mem_ready.2 ⟨rfl, o1, rfl, fun e he hb => ?_⟩⟩ fun j hj => ?_
      · have := b1 e he hb
        match e.on, this with
        | 0, _ => rfl
      · obtain ⟨h1, o', h2, h3⟩ := mem_ready.1 hj
        rcases four h2 with ⟨rfl, he⟩ | ⟨rfl, he⟩ | ⟨rfl, he⟩ | ⟨rfl, he⟩
        · simp [Array.getD_eq_getD_getElem?] at h1
        · refine wpOp_mono (fun a w g => ?_) g1
          show wpAny P .any #[o0, o1, o2, o3] Q 2 #[true, true, false, false] a w
          refine wpAny_go ⟨2, mem_ready.2 ⟨rfl, o2, rfl, fun e he hb => ?_⟩⟩ fun j hj => ?_
          · have := b2 e he hb
            match e.on, this with
            | 0, _ => rfl
            | 1, _ => rfl
          · obtain ⟨h1, o'', h2, h3⟩ := mem_ready.1 hj
            rcases four h2 with ⟨rfl, he⟩ | ⟨rfl, he⟩ | ⟨rfl, he⟩ | ⟨rfl, he⟩
            · simp [Array.getD_eq_getD_getElem?] at h1
            · simp [Array.getD_eq_getD_getElem?] at h1
            · exact wpOp_mono (fun a w g => three a w g) g
            · rw [he] at h3
              have := h3 e4 m4 k4
              rw [n4] at this
              simp [Array.getD_eq_getD_getElem?] at this
        · refine wpOp_mono (fun a w g => ?_) g2
          show wpAny P .any #[o0, o1, o2, o3] Q 2 #[true, false, true, false] a w
          refine wpAny_go ⟨1, mem_ready.2 ⟨rfl, o1, rfl, fun e he hb => ?_⟩⟩ fun j hj => ?_
          · have := b1 e he hb
            match e.on, this with
            | 0, _ => rfl
          · obtain ⟨h1, o'', h2, h3⟩ := mem_ready.1 hj
            rcases four h2 with ⟨rfl, he⟩ | ⟨rfl, he⟩ | ⟨rfl, he⟩ | ⟨rfl, he⟩
            · simp [Array.getD_eq_getD_getElem?] at h1
            · exact wpOp_mono (fun a w g => three a w g) g
            · simp [Array.getD_eq_getD_getElem?] at h1
            · rw [he] at h3
              have := h3 e3 m3 k3
              rw [n3] at this
              simp [Array.getD_eq_getD_getElem?] at this
        · rw [he] at h3
          have := h3 e3 m3 k3
          rw [n3] at this
          simp [Array.getD_eq_getD_getElem?] at this
  · rw [he] at h3
    have := h3 e1 m1 k1
    rw [n1] at this
    simp [Array.getD_eq_getD_getElem?] at this
  · rw [he] at h3
    have := h3 e2 m2 k2
    rw [n2] at this
    simp [Array.getD_eq_getD_getElem?] at this
  · rw [he] at h3
    have := h3 e3 m3 k3
    rw [n3] at this
    simp [Array.getD_eq_getD_getElem?] at this
end Go.Ev
