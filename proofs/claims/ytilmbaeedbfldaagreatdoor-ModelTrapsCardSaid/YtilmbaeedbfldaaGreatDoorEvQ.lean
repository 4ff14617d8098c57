/- Control, calls. -/
import Derived.Test.YtilmbaeedbfldaaGreatDoorEvP
import Derived.Lib.Bytealg
set_option linter.unusedVariables false
set_option linter.unusedSimpArgs false
set_option linter.unusedSectionVars false
namespace Go.Ev

variable {P : Program} {val : Nat → Value} {ρ : Rho}

/-! Results. -/
def resSem (tmps : Array Value) : ResultVar → Sem Value
  | .tmp t => pure (tmps.getD t undef)
  | .cell a t => do loadVar t (← asAddr (tmps.getD a undef))
theorem slotIf_some {m i : Nat} {r : Rs} {t : T} {h : Hp} {v : AV} (hv : result1 (slotIf m i r) t h = some v) : Nat.testBit m i = true ∧ result1 r t h = some v := by
  unfold slotIf at hv
  cases hb : Nat.testBit m i with
  | true => simp only [hb, cond_true] at hv; exact ⟨rfl, hv⟩
  | false => simp only [hb, cond_false] at hv; cases hv
theorem res1_sound {N m : Nat} {t : T} {a : Act} {h : Hp} {w : World} {r : ResultVar} {v : AV} (hs : Sr val ρ N m [] [] t a) (hR : Rd val ρ h.get w) (hv : result1 (cRs P m r) t h = some v) : Tells val ρ P (resSem a.tmps r) w v := by
  cases r with
  | tmp i =>
    obtain ⟨hb, hv⟩ := slotIf_some hv
    exact .mk _ rfl (hs.slot i v hb hv)
  | cell i ty =>
    unfold cRs at hv
    cases ht : pt? P ty with
    | none => simp only [ht] at hv; cases hv
    | some q =>
      obtain ⟨b, n⟩ := q
      cases b with
      | true =>
        simp only [ht] at hv
        obtain ⟨hb, hv⟩ := slotIf_some hv
        obtain ⟨av, ha, hv⟩ := orec_some hv
        have hV := hs.slot i av hb ha
        obtain ⟨p, hp, hf⟩ := orec_some hv
        obtain ⟨cs, hcs, hf⟩ := orec_some hf
        obtain ⟨l, hl, hf⟩ := orec_some hf
        cases hf
        rw [asPtr_some] at hp
        subst hp
        obtain ⟨L, hL, hx⟩ := V_ptr.1 hV
        obtain ⟨_, hc⟩ := row_cells hR hL hcs
        obtain ⟨us, h1, h2, _, h3⟩ := cut_cells (P := P) hc hl
        obtain ⟨ht1, ht2⟩ := pt_spec ht
        exact .mk (.agg us.toArray) (by simp [resSem, hx, asAddr, loadVar, agg_run ht1, sz_run ht2, h3]) (V_agg.2 ⟨_, rfl, h1⟩)
      | false =>
        simp only [ht] at hv
        obtain ⟨hb, hv⟩ := slotIf_some hv
        obtain ⟨av, ha, hv⟩ := orec_some hv
        have hV := hs.slot i av hb ha
        obtain ⟨p, hp, hf⟩ := orec_some hv
        obtain ⟨cs, hcs, hf1⟩ := orec_some hf
        rw [nth_eq] at hf1
        rw [asPtr_some] at hp
        subst hp
        obtain ⟨L, hL, hx⟩ := V_ptr.1 hV
        obtain ⟨_, hc⟩ := row_cells hR hL hcs
        obtain ⟨u, hu, hV⟩ := hc _ _ hf1
        obtain ⟨ht1, ht2⟩ := pt_spec ht
        exact .mk u (by simp [resSem, hx, asAddr, loadVar, agg_run ht1, hu]) hV
theorem resL_sound {N m : Nat} {t : T} {a : Act} {h : Hp} {w : World} (hs : Sr val ρ N m [] [] t a) (hR : Rd val ρ h.get w) : ∀ {l : List ResultVar} {vs : List AV}, resultsL (l.map (cRs P m)) t h = some vs →
    ∃ us, (l.mapM (resSem a.tmps)).run P w = .ok us w ∧ Vs val ρ vs us
  | [], vs, h => by cases h; exact ⟨[], by simp, Vs_nil⟩
  | r :: l, vs, hv => by
    have e : resultsL ((r :: l).map (cRs P m)) t h = Option.rec none (fun v => Option.rec none (fun vs => some (v :: vs)) (resultsL (l.map (cRs P m)) t h)) (result1 (cRs P m r) t h) := rfl
    rw [e] at hv
    obtain ⟨v, h1, hv⟩ := orec_some hv
    obtain ⟨vr, h2, hv⟩ := orec_some hv
    cases hv
    obtain ⟨u, hu, hV⟩ := res1_sound hs hR h1
    obtain ⟨us, hus, hVs⟩ := resL_sound hs hR h2
    exact ⟨u :: us, by simp [List.mapM_cons, hu, hus], Vs_cons hV hVs⟩
theorem results_sound {N m : Nat} {t : T} {a : Act} {h : Hp} {w : World} {fn : Func} {v : AV} (hs : Sr val ρ N m [] [] t a) (hR : Rd val ρ h.get w) (hv : Ev.results (fn.results.toList.map (cRs P m)) t h = some v) :
    ∃ u, (Go.results fn a.tmps).run P w = .ok u w ∧ V val ρ v u := by
  obtain ⟨vs, h1, hv⟩ := orec_some hv
  cases hv
  obtain ⟨us, hus, hVs⟩ := resL_sound hs hR h1
  have hm : (fn.results.mapM (resSem a.tmps)).run P w = .ok us.toArray w := by
    rw [Array.mapM_eq_mapM_toList]
    simp [hus]
  have hr : (Go.results fn a.tmps).run P w = .ok (if h : us.toArray.size = 1 then us.toArray[0] else .tuple us.toArray) w := by
    show Sem.run P (do
      let vs ← fn.results.mapM (resSem a.tmps)
      pure (if h : vs.size = 1 then vs[0] else .tuple vs)) w = _
    rw [Sem.run_bind, hm]
    rfl
  refine ⟨_, hr, ?_⟩
  cases vs with
  | nil =>
    rw [Vs_nil_iff.1 hVs]
    exact V_tup.2 ⟨_, rfl, Vs_nil⟩
  | cons a l =>
    obtain ⟨u, r, rfl, hV, hVr⟩ := Vs_cons_iff.1 hVs
    cases l with
    | nil =>
      rw [Vs_nil_iff.1 hVr]
      exact hV
    | cons b l =>
      have hl := Vs_len hVr
      rw [dif_neg (by simp only [List.length_cons] at hl; simp only [List.size_toArray, List.length_cons]; omega)]
      exact V_tup.2 ⟨_, rfl, Vs_cons hV hVr⟩

/-! Code. -/
/-- The regions that draw their order. -/
def DrwOk (P : Program) (val : Nat → Value) (env : Env) : Prop := ∀ (ops : Array Oper) (id N m : Nat) (Q : Exit → Act → World → Prop) (t : T) (h : Hp) (S : S) (a : Act) (w : World) (ρ : Rho), dOkOps N ops.toList = true → planOk P ops.toList = true →
  runDrw (nwCount P ops.toList) (cD P m ops.toList (ancs ops.toList []) ops.toList [] 0) env t h = some S → Gl P ρ → Sr val ρ N m [] [] t a → R val ρ h.get h.next w → (∀ a' w', After P val N m ρ h w S.t S.h a' w' → Q .normal a' w') →
  (Code.region id ops true).wp P Q a w
/-- A coin's region. -/
def CoinOk (P : Program) (val : Nat → Value) : Prop := ∀ (ops : Array Oper) (id N m b d : Nat) (Q : Exit → Act → World → Prop) (t : T) (h : Hp) (S : S) (a : Act) (w : World) (ρ : Rho), dOkOps N ops.toList = true → coinDst P ops.toList = some (b, d) → Nat.testBit m b = false →
  kp (cKp m (some d)) .coin [] t h = some S → Gl P ρ → Sr val ρ N m [] [] t a → R val ρ h.get h.next w → (∀ a' w', After P val N m ρ h w S.t S.h a' w' → Q .normal a' w') →
  (Code.region id ops true).wp P Q a w

theorem After.trans {N m : Nat} {h h1 h2 : Hp} {w w1 w2 : World} {t2 : T} {a2 : Act} {ρ1 : Rho} (hM : Mv ρ h.get h.next w ρ1 h1.get h1.next w1) (hA : After P val N m ρ1 h1 w1 t2 h2 a2 w2) : After P val N m ρ h w t2 h2 a2 w2 := by
  obtain ⟨ρ2, k1, k2, k3⟩ := hA.ex
  exact ⟨⟨ρ2, k1, k2, hM.trans k3⟩⟩

/-- The two ways at a coin have this in common. -/
theorem join_some {x y : Option St} {s : St} (h : join x y = some s) : ∃ p q, x = some p ∧ y = some q ∧ p.e = .nrm ∧ q.e = .nrm ∧ s = ⟨.nrm, Tr.meet avBeq p.t q.t, ⟨Tr.meet obEq p.h.o q.h.o, idMax p.h.next q.h.next⟩⟩ := by
  obtain ⟨p, hp, h⟩ := orec_some h
  obtain ⟨q, hq, h⟩ := orec_some h
  obtain ⟨pe, pt, ph⟩ := p
  obtain ⟨qe, qt, qh⟩ := q
  cases pe with
  | ext id => cases h
  | ret => cases h
  | nrm =>
    cases qe with
    | ext id => cases h
    | ret => cases h
    | nrm =>
      cases h
      exact ⟨_, _, hp, hq, rfl, rfl, rfl⟩

theorem After.less {N m : Nat} {h h1 h2 : Hp} {w w' : World} {t1 t2 : T} {a' : Act} (hA : After P val N m ρ h w t1 h1 a' w') (ht : ∀ r v, t2.get r = some v → t1.get r = some v) (ho : ∀ r o, h2.get r = some o → h1.get r = some o) (hn : num h1.next ≤ num h2.next) :
    After P val N m ρ h w t2 h2 a' w' := by
  obtain ⟨ρ', k1, k2, k3⟩ := hA.ex
  exact ⟨⟨ρ', ⟨k1.loc, fun d v hb hv => k1.slot d v hb (ht _ _ hv), k1.size, k1.nodef⟩, (k2.sub ho).next hn, (k3.sub ho).next hn⟩⟩

section
variable {g : Gam} {sum : Sum}
theorem exec_succ (fu : Nat → Fu) (n : Nat) (c : Cmd) (t : T) (h : Hp) : exec g fu sum (n + 1) c t h = body c ⟨g, callB fu sum (exec g fu sum n)⟩ (exec g fu sum n) t h := rfl

/-- What the interpreter says of code, so it is. -/
def CodeOk (P : Program) (val : Nat → Value) (x : Cmd → X) (rn : Code → Prop) : Prop := ∀ (c : Code) (N m : Nat) (Q : Exit → Act → World → Prop) (t : T) (h : Hp) (s : St) (a : Act) (w : World) (ρ : Rho), rn c → dOk N c = true →
  x (cCode P m c) t h = some s → Gl P ρ → Sr val ρ N m [] [] t a → R val ρ h.get h.next w → (∀ a' w', After P val N m ρ h w s.t s.h a' w' → Q (exOf s.e) a' w') → c.wp P Q a w

theorem code_step (n : Nat) (hE : Ok P val ⟨g, callB (fuOf P) sum (exec g (fuOf P) sum n)⟩) (hD : DrwOk P val ⟨g, callB (fuOf P) sum (exec g (fuOf P) sum n)⟩) (hCo : CoinOk P val) (ih : CodeOk P val (exec g (fuOf P) sum n) fun _ => True) :
    CodeOk P val (exec g (fuOf P) sum (n + 1)) fun c => ∀ b, c ≠ .loop b := by
  intro c N m Q t h s a w ρ hc hd hr hG hs hR hQ
  rw [exec_succ] at hr
  cases c with
  | skip => cases hr; exact wp_skip (hQ a w ⟨⟨ρ, hs, hR, Mv.refl _ _ _ _⟩⟩)
  | region id ops d =>
    cases d with
    | false =>
      obtain ⟨S, hS, hr⟩ := orec_some (show (Option.rec none (fun s => some ⟨.nrm, s.t, s.h⟩) (runOps (cOps P m ops.toList ops.toList []) ⟨g, callB (fuOf P) sum (exec g (fuOf P) sum n)⟩ [] t h) : Option St) = some s from hr)
      cases hr
      exact region_wp hE hd hS hG hs hR hQ
    | true =>
      have hr : body (cDrawn P m ops.toList) ⟨g, callB (fuOf P) sum (exec g (fuOf P) sum n)⟩ (exec g (fuOf P) sum n) t h = some s := hr
      unfold cDrawn at hr
      cases hco : coinDst P ops.toList with
      | some q =>
        simp only [hco] at hr
        cases hb : Nat.testBit m q.1 with
        | true => simp only [hb, cond_true] at hr; cases hr
        | false =>
          simp only [hb, cond_false] at hr
          obtain ⟨S, hS, hr⟩ := orec_some (show (Option.rec none (fun s => some ⟨.nrm, s.t, s.h⟩) (kp (cKp m (some q.2)) .coin [] t h) : Option St) = some s from hr)
          cases hr
          exact hCo ops id N m q.1 q.2 Q t h S a w ρ hd hco hb hS hG hs hR hQ
      | none =>
        simp only [hco] at hr
        cases hp : planOk P ops.toList with
        | false => simp only [hp, cond_false] at hr; cases hr
        | true =>
          simp only [hp, cond_true] at hr
          obtain ⟨S, hS, hr⟩ := orec_some (show (Option.rec none (fun s => some ⟨.nrm, s.t, s.h⟩) (runDrw (nwCount P ops.toList) (cD P m ops.toList (ancs ops.toList []) ops.toList [] 0) ⟨g, callB (fuOf P) sum (exec g (fuOf P) sum n)⟩ t h) : Option St) = some s from hr)
          cases hr
          exact hD ops id N m Q t h S a w ρ hd hp hS hG hs hR hQ
  | seq x y =>
    have hd2 : dOk N x = true ∧ dOk N y = true := by
      unfold dOk at hd
      cases hx : dOk N x with
      | true => simp only [hx, cond_true] at hd; exact ⟨rfl, hd⟩
      | false => simp only [hx, cond_false] at hd; cases hd
    obtain ⟨s1, hs1, hr⟩ := orec_some (show (Option.rec none (fun s => Ex.rec (exec g (fuOf P) sum n (cCode P m y) s.t s.h) (fun _ => some s) (some s) s.e) (exec g (fuOf P) sum n (cCode P m x) t h) : Option St) = some s from hr)
    obtain ⟨e1, t1, h1⟩ := s1
    refine wp_seq (ih x N m _ t h ⟨e1, t1, h1⟩ a w ρ trivial hd2.1 hs1 hG hs hR fun a' w' hA => ?_)
    cases e1 with
    | nrm =>
      obtain ⟨ρ', k1, k2, k3⟩ := hA.ex
      exact ih y N m Q t1 h1 s a' w' ρ' trivial hd2.2 hr (hG.ext k3.ext) k1 k2 fun a2 w2 hA2 => hQ a2 w2 (hA2.trans k3)
    | ext id => cases hr; exact hQ a' w' hA
    | ret => cases hr; exact hQ a' w' hA
  | cond x y z =>
    have hd2 : dOk N y = true ∧ dOk N z = true := by
      unfold dOk at hd
      cases hx : dOk N y with
      | true => simp only [hx, cond_true] at hd; exact ⟨rfl, hd⟩
      | false => simp only [hx, cond_false] at hd; cases hd
    obtain ⟨v, hv, hr⟩ := orec_some (show (Option.rec none (fun v => Option.rec (Bool.rec none (join (exec g (fuOf P) sum n (cCode P m y) t h) (exec g (fuOf P) sum n (cCode P m z) t h)) (isCoin v))
      (fun c => Bool.rec (exec g (fuOf P) sum n (cCode P m z) t h) (exec g (fuOf P) sum n (cCode P m y) t h) c) (asBool v)) (rd (cRd P m [] x) [] t) : Option St) = some s from hr)
    have hV := rd_sound hG hs hv
    rcases orec_or hr with ⟨_, hr⟩ | ⟨b, hb, hr⟩
    · obtain ⟨hcn, hr⟩ := brec_true hr
      rw [isCoin_iff.1 hcn] at hV
      obtain ⟨b, hb⟩ : ∃ b, a.eval x = .bool b := by simpa [V] using hV
      obtain ⟨p, q, hp, hq, hpe, hqe, rfl⟩ := join_some hr
      have hQ' : ∀ a' w', (After P val N m ρ h w p.t p.h a' w' ∨ After P val N m ρ h w q.t q.h a' w') → Q .normal a' w' := by
        intro a' w' hA
        refine hQ a' w' ?_
        rcases hA with hA | hA
        · exact hA.less (fun r v hv => (Tr.get_meet (fun _ _ => avBeq_eq) _ _ _ _ hv).1) (fun r o ho => (Tr.get_meet (fun _ _ => obEq_eq) _ _ _ _ ho).1) (idMax_ge _ _).1
        · exact hA.less (fun r v hv => (Tr.get_meet (fun _ _ => avBeq_eq) _ _ _ _ hv).2) (fun r o ho => (Tr.get_meet (fun _ _ => obEq_eq) _ _ _ _ ho).2) (idMax_ge _ _).2
      cases b with
      | true => exact wp_cond_true hb (ih y N m Q t h p a w ρ trivial hd2.1 hp hG hs hR fun a' w' hA => by rw [hpe]; exact hQ' a' w' (.inl hA))
      | false => exact wp_cond_false hb (ih z N m Q t h q a w ρ trivial hd2.2 hq hG hs hR fun a' w' hA => by rw [hqe]; exact hQ' a' w' (.inr hA))
    · rw [asBool_some.1 hb, V_bool] at hV
      cases b with
      | true => exact wp_cond_true hV (ih y N m Q t h s a w ρ trivial hd2.1 hr hG hs hR hQ)
      | false => exact wp_cond_false hV (ih z N m Q t h s a w ρ trivial hd2.2 hr hG hs hR hQ)
  | block id x =>
    obtain ⟨s1, hs1, hr⟩ := orec_some (show (Option.rec none (fun s => Ex.rec (some s) (fun i => Bool.rec (some s) (some ⟨.nrm, s.t, s.h⟩) (Nat.beq i id)) (some s) s.e) (exec g (fuOf P) sum n (cCode P m x) t h) : Option St) = some s from hr)
    obtain ⟨e1, t1, h1⟩ := s1
    refine wp_block (ih x N m _ t h ⟨e1, t1, h1⟩ a w ρ trivial hd hs1 hG hs hR fun a' w' hA => ?_)
    cases e1 with
    | nrm => cases hr; exact hQ a' w' hA
    | ret => cases hr; exact hQ a' w' hA
    | ext i =>
      show (if i = id then Q .normal a' w' else Q (.exit i) a' w')
      cases hb : Nat.beq i id with
      | true =>
        have hr : some (⟨.nrm, t1, h1⟩ : St) = some s := by
          have : (Bool.rec (some ⟨.ext i, t1, h1⟩) (some ⟨.nrm, t1, h1⟩) (Nat.beq i id) : Option St) = some s := hr
          rw [hb] at this; exact this
        cases hr
        rw [if_pos (Nat.eq_of_beq_eq_true hb)]
        exact hQ a' w' hA
      | false =>
        have hr : some (⟨.ext i, t1, h1⟩ : St) = some s := by
          have : (Bool.rec (some ⟨.ext i, t1, h1⟩) (some ⟨.nrm, t1, h1⟩) (Nat.beq i id) : Option St) = some s := hr
          rw [hb] at this; exact this
        cases hr
        rw [if_neg (fun k => by rw [k] at hb; simp at hb)]
        exact hQ a' w' hA
  | loop x => exact absurd rfl (hc x)
  | exit id => cases hr; exact wp_exit (hQ a w ⟨⟨ρ, hs, hR, Mv.refl _ _ _ _⟩⟩)
  | ret => cases hr; exact wp_ret (hQ a w ⟨⟨ρ, hs, hR, Mv.refl _ _ _ _⟩⟩)
  | _ => cases hr

end
end Go.Ev
