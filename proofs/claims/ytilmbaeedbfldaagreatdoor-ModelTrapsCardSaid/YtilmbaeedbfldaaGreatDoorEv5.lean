/- What a function tells of things that lie in memory, which it only reads. -/
import Derived.Test.YtilmbaeedbfldaaGreatDoorEv4
set_option linter.unusedVariables false
set_option linter.unusedSimpArgs false
set_option linter.unusedSectionVars false
namespace Go.Ev

variable {P : Program} {val : Nat → Value} {ρ ρ' : Rho}

noncomputable def idLt (b r : Id) : Bool := Nat.beq (idCmp r b) 0
theorem idLt_num {b r : Id} (h : idLt b r = true) : num r < num b := (idCmp_spec r b).2.2.2.1 (Nat.eq_of_beq_eq_true h)
mutual
noncomputable def lowAV (b : Id) : AV → Bool
  | .ptr r _ => idLt b r
  | .slc r _ _ _ _ => idLt b r
  | .agg l => lowAVs b l
  | .map r => idLt b r
  | .fn _ a c => lowAVs b a && lowAVs b c
  | .tup l => lowAVs b l
  | .iface _ v => lowAV b v
  | _ => true
noncomputable def lowAVs (b : Id) : List AV → Bool
  | [] => true
  | a :: l => lowAV b a && lowAVs b l
end
noncomputable def lowEs (b : Id) : List Ent → Bool
  | [] => true
  | e :: l => lowAV b e.1 && lowAV b e.2.1 && lowEs b l
noncomputable def lowOb (b : Id) : Ob → Bool
  | .row _ cs => lowAVs b cs
  | .mp es _ => lowEs b es
  | .mit m _ _ _ => match m with | none => true | some r => idLt b r

section
variable {b : Id} (hx : ∀ r L, num r < num b → ρ r = some L → ρ' r = some L)
include hx
mutual
theorem V_low : ∀ (a : AV) (v : Value), lowAV b a = true → V val ρ a v → V val ρ' a v
  | .int k n, v, _, h => by simpa [V] using h
  | .bool c, v, _, h => by simpa [V] using h
  | .ptr r off, v, hl, h => by simp only [V] at h ⊢; obtain ⟨L, h1, h2⟩ := h; exact ⟨L, hx _ _ (idLt_num hl) h1, h2⟩
  | .slc r off len sz cap, v, hl, h => by simp only [V] at h ⊢; obtain ⟨L, a, c, h1, h2⟩ := h; exact ⟨L, a, c, hx _ _ (idLt_num hl) h1, h2⟩
  | .str n l, v, _, h => by simpa [V] using h
  | .agg l, v, hl, h => by simp only [V] at h ⊢; obtain ⟨a, h1, h2⟩ := h; exact ⟨a, h1, Vs_low l _ hl h2⟩
  | .nul k, v, _, h => by simpa [V] using h
  | .map r, v, hl, h => by simp only [V] at h ⊢; obtain ⟨L, h1, h2⟩ := h; exact ⟨L, hx _ _ (idLt_num hl) h1, h2⟩
  | .fn i a c, v, hl, h => by
    simp only [lowAV, Bool.and_eq_true] at hl
    simp only [V] at h ⊢
    obtain ⟨x, y, h1, h2, h3⟩ := h
    exact ⟨x, y, h1, Vs_low a _ hl.1 h2, Vs_low c _ hl.2 h3⟩
  | .tup l, v, hl, h => by simp only [V] at h ⊢; obtain ⟨a, h1, h2⟩ := h; exact ⟨a, h1, Vs_low l _ hl h2⟩
  | .iface t x, v, hl, h => by simp only [V] at h ⊢; obtain ⟨y, h1, h2⟩ := h; exact ⟨y, h1, V_low x y hl h2⟩
  | .coin, v, _, h => by simpa [V] using h
  | .opq i, v, _, h => by simpa [V] using h
theorem Vs_low : ∀ (l : List AV) (m : List Value), lowAVs b l = true → Vs val ρ l m → Vs val ρ' l m
  | [], m, _, h => by rw [Vs_nil_iff] at h ⊢; exact h
  | a :: l, m, hl, h => by
    simp only [lowAVs, Bool.and_eq_true] at hl
    obtain ⟨v, r, h1, h2, h3⟩ := Vs_cons_iff.1 h
    exact Vs_cons_iff.2 ⟨v, r, h1, V_low a v hl.1 h2, Vs_low l r hl.2 h3⟩
end
theorem Es_low : ∀ (l : List Ent) (m : List MapEntry), lowEs b l = true → Es val ρ l m → Es val ρ' l m
  | [], m, _, h => h
  | e :: l, m, hl, h => by
    simp only [lowEs, Bool.and_eq_true] at hl
    obtain ⟨x, r, h1, h2, h3, h4, h5⟩ := h
    exact ⟨x, r, h1, V_low hx _ _ hl.1.1 h2, V_low hx _ _ hl.1.2 h3, h4, Es_low l r hl.2 h5⟩
omit hx in
theorem lowAVs_mem : ∀ {l : List AV}, lowAVs b l = true → ∀ a ∈ l, lowAV b a = true
  | [], _, a, ha => by simp at ha
  | c :: l, h, a, ha => by
    simp only [lowAVs, Bool.and_eq_true] at h
    rcases List.mem_cons.1 ha with rfl | ha
    · exact h.1
    · exact lowAVs_mem h.2 a ha
theorem ObR_low {L : Loc} {heap : Array Obj} : ∀ {o : Ob}, lowOb b o = true → ObR val ρ L heap o → ObR val ρ' L heap o
  | .row ro cs, hl, h => by
    obtain ⟨h0, c, e, f, h1, h2, h3, h4, h5⟩ := h
    refine ⟨h0, c, e, f, h1, h2, h3, fun i a hi => ?_, h5⟩
    obtain ⟨v, hv, hV⟩ := h4 i a hi
    exact ⟨v, hv, V_low hx _ _ (lowAVs_mem hl a (List.mem_of_getElem? hi)) hV⟩
  | .mp es clock, hl, h => by
    obtain ⟨h0, a, h1, h2⟩ := h
    exact ⟨h0, a, h1, Es_low hx _ _ hl h2⟩
  | .mit m since seen last, hl, h => by
    obtain ⟨h0, hsh, m', h1, h2, h3⟩ := h
    refine ⟨h0, hsh, m', h1, h2, fun r hr => ?_⟩
    subst hr
    obtain ⟨L', h4, h5⟩ := h3 r rfl
    exact ⟨L', hx _ _ (idLt_num hl) h4, h5⟩
end

/-! What was led to stays led to: back to the elder names. -/
section
variable (hx : ∀ r L, ρ r = some L → ρ' r = some L)
include hx
theorem back_id {r : Id} {L L0 : Loc} (h0 : ρ r = some L0) (h : ρ' r = some L) : ρ r = some L := by
  have := hx r L0 h0
  rw [h] at this
  cases this
  exact h0
mutual
theorem V_back : ∀ (a : AV) (v v0 : Value), V val ρ a v0 → V val ρ' a v → V val ρ a v
  | .int k n, v, _, _, h => by simpa [V] using h
  | .bool c, v, _, _, h => by simpa [V] using h
  | .ptr r off, v, _, h0, h => by simp only [V] at h h0 ⊢; obtain ⟨L, h1, h2⟩ := h; obtain ⟨L0, g1, _⟩ := h0; exact ⟨L, back_id hx g1 h1, h2⟩
  | .slc r off len sz cap, v, _, h0, h => by simp only [V] at h h0 ⊢; obtain ⟨L, a, c, h1, h2⟩ := h; obtain ⟨L0, _, _, g1, _⟩ := h0; exact ⟨L, a, c, back_id hx g1 h1, h2⟩
  | .str n l, v, _, _, h => by simpa [V] using h
  | .agg l, v, _, h0, h => by simp only [V] at h h0 ⊢; obtain ⟨a, h1, h2⟩ := h; obtain ⟨a0, _, g2⟩ := h0; exact ⟨a, h1, Vs_back l _ _ g2 h2⟩
  | .nul k, v, _, _, h => by simpa [V] using h
  | .map r, v, _, h0, h => by simp only [V] at h h0 ⊢; obtain ⟨L, h1, h2⟩ := h; obtain ⟨L0, g1, _⟩ := h0; exact ⟨L, back_id hx g1 h1, h2⟩
  | .fn i a c, v, _, h0, h => by simp only [V] at h h0 ⊢; obtain ⟨x, y, h1, h2, h3⟩ := h; obtain ⟨_, _, _, g2, g3⟩ := h0; exact ⟨x, y, h1, Vs_back a _ _ g2 h2, Vs_back c _ _ g3 h3⟩
  | .tup l, v, _, h0, h => by simp only [V] at h h0 ⊢; obtain ⟨a, h1, h2⟩ := h; obtain ⟨a0, _, g2⟩ := h0; exact ⟨a, h1, Vs_back l _ _ g2 h2⟩
  | .iface t x, v, _, h0, h => by simp only [V] at h h0 ⊢; obtain ⟨y, h1, h2⟩ := h; obtain ⟨y0, _, g2⟩ := h0; exact ⟨y, h1, V_back x y y0 g2 h2⟩
  | .coin, v, _, _, h => by simpa [V] using h
  | .opq i, v, _, _, h => by simpa [V] using h
theorem Vs_back : ∀ (l : List AV) (m m0 : List Value), Vs val ρ l m0 → Vs val ρ' l m → Vs val ρ l m
  | [], m, _, _, h => by rw [Vs_nil_iff] at h ⊢; exact h
  | a :: l, m, m0, h0, h => by
    obtain ⟨v, r, h1, h2, h3⟩ := Vs_cons_iff.1 h
    obtain ⟨v0, r0, _, g2, g3⟩ := Vs_cons_iff.1 h0
    exact Vs_cons_iff.2 ⟨v, r, h1, V_back a v v0 g2 h2, Vs_back l r r0 g3 h3⟩
end
theorem Es_back : ∀ (l : List Ent) (m m0 : List MapEntry), Es val ρ l m0 → Es val ρ' l m → Es val ρ l m
  | [], m, _, _, h => h
  | e :: l, m, m0, h0, h => by
    obtain ⟨x, r, h1, h2, h3, h4, h5⟩ := h
    obtain ⟨x0, r0, _, g2, g3, _, g5⟩ := h0
    exact ⟨x, r, h1, V_back hx _ _ _ g2 h2, V_back hx _ _ _ g3 h3, h4, Es_back l r r0 g5 h5⟩
theorem ObR_back {L : Loc} {heap heap' : Array Obj} : ∀ {o : Ob}, ObR val ρ L heap o → ObR val ρ' L heap' o → ObR val ρ L heap' o
  | .row ro cs, h0, h => by
    obtain ⟨g0, c, e, f, h1, h2, h3, h4, h5⟩ := h
    obtain ⟨_, c0, _, _, _, _, _, g4, _⟩ := h0
    refine ⟨g0, c, e, f, h1, h2, h3, fun i a hi => ?_, h5⟩
    obtain ⟨v, hv, hV⟩ := h4 i a hi
    obtain ⟨v0, _, hV0⟩ := g4 i a hi
    exact ⟨v, hv, V_back hx _ _ _ hV0 hV⟩
  | .mp es clock, h0, h => by
    obtain ⟨g0, a, h1, h2⟩ := h
    obtain ⟨_, a0, _, g2⟩ := h0
    exact ⟨g0, a, h1, Es_back hx _ _ _ g2 h2⟩
  | .mit m since seen last, h0, h => by
    obtain ⟨g0, hsh, m', h1, h2, h3⟩ := h
    obtain ⟨_, _, m0, _, _, g3⟩ := h0
    refine ⟨g0, hsh, m', h1, h2, fun r hr => ?_⟩
    obtain ⟨L', h4, h5⟩ := h3 r hr
    obtain ⟨L0, g4, _⟩ := g3 r hr
    exact ⟨L', back_id hx g4 h4, h5⟩
end

noncomputable def putAll (rows : List (Id × Ob)) (o : Tr Ob) : Tr Ob := List.rec o (fun p _ t => t.set p.1 p.2) rows
theorem putAll_get {o : Tr Ob} {r : Id} : ∀ {rows : List (Id × Ob)} {x : Ob}, (putAll rows o).get r = some x → (∃ p ∈ rows, r = p.1 ∧ x = p.2) ∨ o.get r = some x
  | [], x, h => .inr h
  | p :: rows, x, h => by
    have h : ((putAll rows o).set p.1 p.2).get r = some x := h
    rw [Tr.get_set] at h
    split at h
    · cases h; exact .inl ⟨p, by simp, ‹_›, rfl⟩
    · rcases putAll_get h with ⟨q, h1, h2⟩ | h
      · exact .inl ⟨q, by simp [h1], h2⟩
      · exact .inr h
structure Look where
  args : List AV
  rows : List (Id × Ob)
  v : AV
noncomputable def lookHp (g : Id) (tab : Ob) (b : Id) (s : Look) : Hp := ⟨putAll s.rows (Tr.set .nil g tab), b⟩
noncomputable def hasAll (rows : List (Id × Ob)) (h : Hp) : Bool := List.rec true (fun p _ ih => Bool.rec false ih (optEq obEq (h.get p.1) (some p.2))) rows
theorem hasAll_mem {h : Hp} : ∀ {rows : List (Id × Ob)}, hasAll rows h = true → ∀ p ∈ rows, h.get p.1 = some p.2
  | [], _, p, hp => by simp at hp
  | q :: rows, hh, p, hp => by
    have hh : (Bool.rec false (hasAll rows h) (optEq obEq (h.get q.1) (some q.2)) : Bool) = true := hh
    cases ho : optEq obEq (h.get q.1) (some q.2) with
    | false => rw [ho] at hh; cases hh
    | true =>
      rw [ho] at hh
      rcases List.mem_cons.1 hp with rfl | hp
      · exact optEq_iff (fun _ _ => obEq_eq) ho
      · exact hasAll_mem hh p hp
noncomputable def lookF (g : Id) (tab : Ob) (s : Look) : List AV → Hp → Option (AV × Hp) := fun as h =>
  Bool.rec none (Bool.rec none (Bool.rec none (some (s.v, h)) (hasAll s.rows h)) (optEq obEq (h.get g) (some tab))) (allEq avBeq s.args as)
noncomputable def look (f0 : Nat) (g : Id) (tab : Ob) (s : Look) : Sum := fun f => Bool.rec none (some (lookF g tab s)) (Nat.beq f f0)
noncomputable def lookOk (g : Id) (tab : Ob) (s : Look) (r : Option (AV × Hp)) : Bool := match r with
  | some (v, ph) => avBeq v s.v && plainAV s.v && optEq obEq (ph.get g) (some tab) && hasAll s.rows ph
  | none => false
noncomputable def lookLow (b : Id) (s : Look) : Bool := lowAVs b s.args && s.rows.all fun p => idLt b p.1 && lowOb b p.2

theorem look_ok {cf : CallF} {f0 : Nat} {g b : Id} {tcs : List AV} {s : Look} (hC : CallOk P val cf) (hlow : lookLow b s = true) (hrun : lookOk g (.row true tcs) s (cf f0 s.args (lookHp g (.row true tcs) b s)) = true) (hg : num g < num b) (hgl : P.globals.size ≤ num b) (htab : tcs.all plainAV = true) :
    SumOk P val (look f0 g (.row true tcs) s) := by
  intro f sf hsf as h v h' hm ρ args w hG hV hR
  have hf : f = f0 ∧ sf = lookF g (.row true tcs) s := by
    unfold look at hsf
    cases hb : Nat.beq f f0 with
    | false => rw [hb] at hsf; cases hsf
    | true => rw [hb] at hsf; cases hsf; exact ⟨Nat.eq_of_beq_eq_true hb, rfl⟩
  obtain ⟨rfl, rfl⟩ := hf
  obtain ⟨h1, hm⟩ := brec_true hm
  obtain ⟨h2, hm⟩ := brec_true hm
  obtain ⟨h3, hm⟩ := brec_true hm
  cases hm
  have has := allEq_eq (fun _ _ => avBeq_eq) h1
  subst has
  have hgt := optEq_iff (fun _ _ => obEq_eq) h2
  have hrows := hasAll_mem h3
  simp only [lookLow, Bool.and_eq_true, List.all_eq_true] at hlow
  obtain ⟨hla, hlr⟩ := hlow
  cases hc : cf f s.args (lookHp g (.row true tcs) b s) with
  | none => rw [hc] at hrun; cases hrun
  | some q =>
    obtain ⟨qv, ph⟩ := q
    rw [hc] at hrun
    simp only [lookOk, Bool.and_eq_true] at hrun
    obtain ⟨⟨⟨k1, k2⟩, k3⟩, k4⟩ := hrun
    have k1 := avBeq_eq k1
    subst k1
    have hpt := optEq_iff (fun _ _ => obEq_eq) k3
    have hpr := hasAll_mem k4
    let ρ1 : Rho := fun r => if num r < num b then ρ r else none
    have hr1 : ∀ r, num r < num b → ρ1 r = ρ r := fun r h => if_pos h
    have low : ∀ r L, num r < num b → ρ r = some L → ρ1 r = some L := fun r L h1 h2 => by rw [hr1 r h1]; exact h2
    -- what stands in the small memory stands in the greater one
    have hk : ∀ r o, (lookHp g (.row true tcs) b s).get r = some o → h.get r = some o ∧ ph.get r = some o ∧ num r < num b ∧ lowOb b o = true := by
      intro r o ho
      rcases putAll_get (show (putAll s.rows (Tr.set .nil g (.row true tcs))).get r = some o from ho) with ⟨p, hp, rfl, rfl⟩ | ho
      · have := hlr p hp
        exact ⟨hrows p hp, hpr p hp, idLt_num this.1, this.2⟩
      · rw [Tr.get_set] at ho
        split at ho
        · cases ho
          rename_i e
          subst e
          refine ⟨hgt, hpt, hg, ?_⟩
          have : ∀ l : List AV, l.all plainAV = true → lowAVs b l = true := by
            intro l
            induction l with
            | nil => intro _; rfl
            | cons a l ih =>
              intro hl
              simp only [List.all_cons, Bool.and_eq_true] at hl
              simp only [lowAVs, Bool.and_eq_true]
              refine ⟨?_, ih hl.2⟩
              cases a <;> first | rfl | exact Bool.noConfusion (show false = true from hl.1)
          exact this tcs htab
        · cases ho
    have hG1 : Gl P ρ1 := fun i hi => by
      rw [hr1 _ (by rw [num_pth]; omega)]
      exact hG i hi
    have hR1 : R val ρ1 (lookHp g (.row true tcs) b s).get (lookHp g (.row true tcs) b s).next w := by
      refine ⟨?_, ?_, ?_⟩
      · intro r o ho
        obtain ⟨g1, _, g3, g4⟩ := hk r o ho
        obtain ⟨L, hL, hO⟩ := hR.ob r o g1
        exact ⟨L, by rw [hr1 r g3]; exact hL, ObR_low low g4 hO⟩
      · intro r r' o o' L L' e1 e2 hne e3 e4 heq
        obtain ⟨g1, _, g3, _⟩ := hk r o e1
        obtain ⟨g1', _, g3', _⟩ := hk r' o' e2
        rw [hr1 r g3] at e3
        rw [hr1 r' g3'] at e4
        exact hR.ap r r' o o' L L' g1 g1' hne e3 e4 heq
      · intro r hr
        exact if_neg (by have hr : num b ≤ num r := hr; omega)
    have hV1 : Vs val ρ1 s.args args.toList := Vs_low low _ _ hla hV
    refine FnOk.mono (hC _ _ _ _ _ hc ρ1 args w hG1 hV1 hR1) ?_
    rintro u w' ⟨ρ2, hu, hR', hM⟩
    have hbk : ∀ r L, num r < num b → ρ r = some L → ρ2 r = some L := fun r L h1 h2 => hM.ext r L (low r L h1 h2)
    -- blocks of other rows stay
    have other : ∀ r o L, h.get r = some o → ρ r = some L → (∀ o', (lookHp g (.row true tcs) b s).get r ≠ some o') → L.blk < w.heap.size → w'.heap[L.blk]? = w.heap[L.blk]? := by
      intro r o L hr hL hno hlt
      refine hM.block _ hlt fun r1 o1 L1 e1 e2 e3 e4 => ?_
      obtain ⟨g1, _, g3, _⟩ := hk r1 o1 e1
      rw [hr1 r1 g3] at e2
      have hne : r1 ≠ r := by rintro rfl; exact hno o1 e1
      have := hR.ap r1 r o1 o L1 L g1 hr hne e2 hL e4
      rw [e3] at this
      cases this.1
    refine ⟨ρ, V_plain k2 hu, ⟨?_, hR.ap, hR.fr⟩, ⟨Ext.refl _, Nat.le_refl _, (fun r L h1 h2 => by rw [h1] at h2; cases h2), fun r o L h1 _ => ⟨o, h1⟩, hM.os, hM.tape, hM.output, hM.size, ?_⟩⟩
    · intro r o ho
      obtain ⟨L, hL, hO⟩ := hR.ob r o ho
      cases hx : (lookHp g (.row true tcs) b s).get r with
      | none => exact ⟨L, hL, hO.mono (Ext.refl _) (other r o L ho hL (fun o' e => by rw [hx] at e; cases e) hO.lt)⟩
      | some o' =>
        obtain ⟨g1, g2, g3, g4⟩ := hk r o' hx
        rw [ho] at g1
        cases g1
        obtain ⟨L2, hL2, hO2⟩ := hR'.ob r o g2
        rw [hbk r L g3 hL] at hL2
        cases hL2
        refine ⟨L, hL, ?_⟩
        have hxx : ∀ r L, ρ1 r = some L → ρ2 r = some L := hM.ext
        have h10 := ObR_back hxx (ObR_low low g4 hO) hO2
        exact ObR_low (b := b) (fun r L h1 h2 => by rw [hr1 r h1] at h2; exact h2) g4 h10
    · intro blk hb hno
      refine hM.block blk hb fun r1 o1 L1 e1 e2 e3 => ?_
      obtain ⟨g1, _, g3, _⟩ := hk r1 o1 e1
      rw [hr1 r1 g3] at e2
      exact hno r1 o1 L1 g1 e2 e3
end Go.Ev
