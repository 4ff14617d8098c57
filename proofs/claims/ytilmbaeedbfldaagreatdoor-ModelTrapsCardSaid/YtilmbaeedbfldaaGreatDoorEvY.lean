/- Regions that draw their order: the whole. -/
import Derived.Test.YtilmbaeedbfldaaGreatDoorEvX
set_option linter.unusedVariables false
set_option linter.unusedSimpArgs false
set_option linter.unusedSectionVars false
namespace Go.Ev

variable {P : Program} {val : Nat → Value} {ops : Array Oper} {N m : Nat} {t0 : T} {h0 : Hp} {st : Nat → DS} {tv : Nat → AV} {dd : Nat → Did} {ρ0 : Rho} {a0 : Act} {w0 : World}

section
variable (hT : Tc P val ops m t0 h0 st tv dd) (hN : dOkOps N ops.toList = true) (hs : Sr val ρ0 N m [] [] t0 a0) (hG : Gl P ρ0)
include hT

include hs in
theorem Tc.done {L : Nat → Prop} {ρ : Rho} {a : Act} {w : World} (hall : ∀ k, k < ops.size → L k) (I : Inv P val ops h0 st tv dd ρ0 a0 w0 L ρ a w) :
    After P val N m ρ0 h0 w0 (st ops.size).t (layAll (st ops.size).pend (st ops.size).h) a w := by
  refine ⟨⟨ρ, ⟨(fun d n v h1 _ => by cases h1), ?_, by rw [I.slots.size]; exact hs.size, I.slots.nodef⟩, ?_⟩⟩
  · intro d v hb hv
    by_cases hk : ∃ (k : Nat) (o : Oper), ops.toList[k]? = some o ∧ o.dst = some d
    · obtain ⟨k, o, ho, hd⟩ := hk
      have hlt : k < ops.size := by simpa using (List.getElem?_eq_some_iff.1 ho).1
      have := (hT.told ho hd ops.size (Nat.le_refl _) hlt).2 hb
      rw [hv] at this
      cases this
      exact I.slots.told k o d (hall k hlt) ho hd
    · have hun : ∀ (k : Nat) (o : Oper), ops.toList[k]? = some o → o.dst ≠ some d := fun k o h1 h2 => hk ⟨k, o, h1, h2⟩
      rw [(hT.untold ops.size (Nat.le_refl _) fun k o _ h => hun k o h).2] at hv
      rw [I.slots.untold d fun k o _ h => hun k o h]
      exact V_mono I.ext _ _ (hs.slot d v hb hv)
  · cases I.mem with
    | swap i j n1 n2 vs1 vs2 F1 F2 o1 o2 q q2 hij hj di dj li rest last hs1 hs2 hne hm => exact (li (hall i (by omega))).elim
    | line q hq pos dis hm =>
      have hst : ∀ e, q ≤ e → e < ops.size → isE (dd e) = false := by
        intro e h1 h2
        cases hE : isE (dd e) with
        | false => rfl
        | true => have := (pos e h2 hE).1 (hall e h2); omega
      have hget : (layAll (st ops.size).pend (st ops.size).h).get = GL ops.toList ops.size st dd L q := by
        rw [← hT.GL_still hq (Nat.le_refl _) hst]
        funext r
        unfold GL
        cases hx : flo ops.size st dd (fun k => L k ∧ flt ops.toList dd ops.size k) r with
        | some o =>
          obtain ⟨k, k1, ⟨k2, k3⟩, k4, k5⟩ := hT.flo_some.1 hx
          obtain ⟨p, hp, p1, p2⟩ := layAll_some (h := (st ops.size).h) (l := (st ops.size).pend) (r := r) ⟨⟨k, (st k).res, o⟩, (hT.pend _ (Nat.le_refl _) _).2 ⟨k1, k4, rfl, k3⟩, k5⟩
          obtain ⟨q1, q2, q3, q4⟩ := (hT.pend _ (Nat.le_refl _) p).1 hp
          have : p.i = k := hT.res_inj (hT.nw q1 q2) (hT.nw k1 k4) (by rw [← q3, p1, k5])
          rw [this, k4] at q2
          injection q2 with q2
          rw [p2, ← q2]
          rfl
        | none =>
          have hn := hT.flo_none.1 hx
          rw [layAll_none]
          · rfl
          · intro p hp hr
            obtain ⟨q1, q2, q3, q4⟩ := (hT.pend _ (Nat.le_refl _) p).1 hp
            exact hn p.i p.o q1 ⟨hall _ q1, q4⟩ q2 (by rw [← q3, hr])
      have hnx : (layAll (st ops.size).pend (st ops.size).h).next = (st q).h.next := by rw [layAll_next, hT.h_same hq (Nat.le_refl _) hst]
      rw [hget, hnx]
      exact ⟨hm.r, hm.mv.next (by have := hm.up; omega)⟩

theorem Tc.inv0 (hR : R val ρ0 h0.get h0.next w0) (hd : a0.defers = []) : Inv P val ops h0 st tv dd ρ0 a0 w0 (fun _ => False) ρ0 a0 w0 := by
  refine ⟨fun _ _ _ h => h.elim, ⟨fun _ _ _ h => h.elim, fun _ _ => rfl, rfl, hd⟩, Ext.refl _, ?_, ?_⟩
  · intro k hk _
    obtain ⟨o, ho, _⟩ := hk
    have hlt : k < ops.size := by simpa using (List.getElem?_eq_some_iff.1 ho).1
    exact hR.fr _ (by have := hT.res k (by omega); omega)
  · have hget : GL ops.toList ops.size st dd (fun _ => False) 0 = h0.get := by
      unfold GL
      rw [hT.init]
      funext r
      rw [hT.flo_none.2 fun _ _ _ h => h.1.elim]
      rfl
    refine .line 0 (Nat.zero_le _) (fun e _ _ => ⟨fun h => h.elim, fun h => by omega⟩) (fun _ _ _ h => h.elim) ?_
    rw [hget, hT.init]
    exact ⟨hR.next (by rw [num_incN]; omega), Mv.refl _ _ _ _, by rw [num_incN]; omega⟩

include hN hs hG in
theorem Tc.any {Q : Exit → Act → World → Prop} (hQ : ∀ a' w', After P val N m ρ0 h0 w0 (st ops.size).t (layAll (st ops.size).pend (st ops.size).h) a' w' → Q .normal a' w') : ∀ (fuel : Nat) (listed : Array Bool) (ρ : Rho) (a : Act) (w : World),
    listed.size = ops.size → listed.toList.count false ≤ fuel → Inv P val ops h0 st tv dd ρ0 a0 w0 (fun k => listed[k]? = some true) ρ a w → wpAny P .any ops Q fuel listed a w := by
  have fin : ∀ (listed : Array Bool) (ρ : Rho) (a : Act) (w : World), listed.size = ops.size → Inv P val ops h0 st tv dd ρ0 a0 w0 (fun k => listed[k]? = some true) ρ a w → Region.ready .any ops listed = [] → Q .normal a w := by
    intro listed ρ a w hsz I hr
    refine hQ a w (hT.done hs (fun k => ?_) I)
    induction k using Nat.strongRecOn with
    | ind k ih =>
      intro hk
      obtain ⟨b, hb⟩ : ∃ b, listed[k]? = some b := ⟨listed[k], by simp [hsz, hk]⟩
      cases b with
      | true => exact hb
      | false =>
        obtain ⟨o, ho⟩ := at_lt hk
        have : k ∈ Region.ready .any ops listed := by
          refine mem_ready.2 ⟨by simp [Array.getD_eq_getD_getElem?, hb], o, by simpa using ho, fun e he hbn => ?_⟩
          have hlt := hT.plan.back k o e ho (by simpa using he) hbn
          have hL : listed[e.on]? = some true := ih e.on hlt (by omega)
          simp [Array.getD_eq_getD_getElem?, hL]
        rw [hr] at this
        cases this
  intro fuel
  induction fuel with
  | zero =>
    intro listed ρ a w hsz hc I
    have hr : Region.ready .any ops listed = [] := by
      apply List.eq_nil_iff_forall_not_mem.2
      intro j hj
      obtain ⟨h1, o, h2, _⟩ := mem_ready.1 hj
      have hlt : j < listed.size := by rw [hsz]; exact (Array.getElem?_eq_some_iff.1 h2).1
      have h3 : listed[j] = false := by simpa [Array.getD_eq_getD_getElem?, hlt] using h1
      have : false ∈ listed.toList := by rw [← h3]; simp
      have := List.count_pos_iff.2 this
      omega
    exact ⟨hr, fin listed ρ a w hsz I hr⟩
  | succ fuel ih =>
    intro listed ρ a w hsz hc I
    refine ⟨fin listed ρ a w hsz I, fun j hj => ?_⟩
    obtain ⟨h1, o, h2, h3⟩ := mem_ready.1 hj
    have hlt : j < ops.size := (Array.getElem?_eq_some_iff.1 h2).1
    have hlt' : j < listed.size := by omega
    have hjf : listed[j] = false := by simpa [Array.getD_eq_getD_getElem?, hlt'] using h1
    have hL : ¬ (listed[j]? = some true) := by simp [hlt', hjf]
    have ho : ops.toList[j]? = some o := by simpa using h2
    have hanc : ∀ k, Nat.testBit (Aof ops.toList j) k = true → listed[k]? = some true := by
      intro k hb
      obtain ⟨e, he, hbn, hk⟩ := (hT.plan.bit ho k).1 hb
      have h4 := h3 e (by simpa using he) hbn
      have h5 : listed[e.on]? = some true := by
        rw [Array.getD_eq_getD_getElem?] at h4
        cases hx : listed[e.on]? with
        | none => rw [hx] at h4; cases h4
        | some b => rw [hx] at h4; simp at h4; rw [h4]
      rcases hk with rfl | hk
      · exact h5
      · exact I.closed e.on k (by have := hT.plan.back j o e ho he hbn; omega) h5 hk
    have hlts : ∀ k, listed[k]? = some true → k < ops.size := fun k h => by rw [← hsz]; exact (Array.getElem?_eq_some_iff.1 h).1
    refine wpOp_mono (fun a' w' hI => ?_) (hT.step_inv hN hs hG (Q := Q) hlt hL hlts hanc I)
    obtain ⟨ρ', I'⟩ := hI
    have hfun : (fun k => k = j ∨ listed[k]? = some true) = fun k => (listed.setIfInBounds j true)[k]? = some true := by
      funext k
      apply propext
      rw [Array.getElem?_setIfInBounds]
      by_cases e : j = k
      · subst e; simp [hlt']
      · simp [e, Ne.symm e]
    rw [hfun] at I'
    refine ih _ ρ' a' w' (by simpa using hsz) ?_ I'
    have : (listed.setIfInBounds j true).toList.count false = listed.toList.count false - 1 := by
      rw [Array.toList_setIfInBounds, List.count_set (by simpa using hlt')]
      simp [hjf]
    omega
end

theorem drw_ok {env : Env} (hm : P.follows .mixedOrders = true) (hE : Ok P val env) : DrwOk P val env := by
  intro ops id N m Q t h S a w ρ hN hp hr hG hs hR hQ
  obtain ⟨st, tv, dd, hT, rfl⟩ := trace_spec hE hp hr
  refine wp_region_any hm ?_
  have hR' : R val ρ h.get h.next { w with drawn := w.drawn + 1 } := hR.drawn rfl
  have hM : Mv ρ h.get h.next w ρ h.get h.next { w with drawn := w.drawn + 1 } := Mv.drawn rfl rfl rfl rfl
  refine hT.any hN hs hG (fun a' w' hA => hQ a' w' (hA.trans hM)) ops.size _ ρ a _ (by simp) ?_ ?_
  · exact Nat.le_trans List.count_le_length (by simp)
  · have e : (fun k : Nat => (Array.replicate ops.size false)[k]? = some true) = fun _ => False := by
      funext k
      apply propext
      constructor
      · intro h
        have := Array.mem_of_getElem? h
        simp at this
      · exact fun h => h.elim
    rw [e]
    exact hT.inv0 hR' hs.nodef
end Go.Ev
