/- Control. -/
import Derived.Test.YtgchblfkmgnaeaaGreatDoorEvO
import Derived.LoopN
import Derived.Orders
set_option linter.unusedVariables false
set_option linter.unusedSimpArgs false
set_option linter.unusedSectionVars false
namespace Go.Ev

variable {P : Program} {val : Nat → Value} {ρ : Rho}

/-- What is known around a step. -/
structure Ok (P : Program) (val : Nat → Value) (env : Env) : Prop where
  hval : ∀ i, (val i).oneCell' = true
  gam : GamOk P val env.g
  call : CallOk P val env.call

theorem dstOf_some {ops : Array Oper} {j d : Nat} (h : dstOf ops.toList j = some d) : ∃ o, ops[j]? = some o ∧ o.dst = some d := by
  unfold dstOf at h
  rw [nth_eq] at h
  split at h
  · rename_i o ho; exact ⟨o, by simpa using ho, h⟩
  · cases h

theorem bEq_eq (a b : Bool) : (Bool.rec (not a) a b : Bool) = (a == b) := by cases a <;> cases b <;> rfl

theorem told_guard {ops : Array Oper} {a : Act} {j d : Nat} {og : Oper} (hj : ops[j]? = some og) (hd : og.dst = some d) : yielded ops a.tmps j = match a.tmps[d]? with | some (.bool b) => some b | _ => none := by
  unfold yielded
  simp only [hj, hd, Option.bind_some]
  rfl
theorem getD_bool {a : Act} {d : Nat} {b : Bool} (h : a.tmps.getD d undef = .bool b) : a.tmps[d]? = some (.bool b) := by
  rw [Array.getD_eq_getD_getElem?] at h
  cases hx : a.tmps[d]? with
  | none => rw [hx] at h; cases h
  | some v => rw [hx] at h; simp at h; rw [h]
theorem getD_tup {a : Act} {d : Nat} {l : Array Value} (h : a.tmps.getD d undef = .tuple l) : a.tmps[d]? = none ∨ a.tmps[d]? = some (.tuple l) := by
  rw [Array.getD_eq_getD_getElem?] at h
  cases hx : a.tmps[d]? with
  | none => exact .inl rfl
  | some v => rw [hx] at h; simp at h; rw [h]; exact .inr rfl

theorem ops_wp {env : Env} {ops : Array Oper} {N m : Nat} {Q : Exit → Act → World → Prop} (hE : Ok P val env) (hN : dOkOps N ops.toList = true) : ∀ (l : List Oper) (i : Nat) (prev : List Nat) (loc : List AV) (t : T) (h : Hp) (S : S) (a : Act) (w : World) (ρ : Rho),
    ops.toList.drop i = l → dOkOps N l = true → runOps (cOps P m ops.toList l prev) env loc t h = some S → Gl P ρ → Sr val ρ N m prev loc t a → R val ρ h.get h.next w →
    (∀ ρ' a' w' prev', Sr val ρ' N m prev' S.loc S.t a' → R val ρ' S.h.get S.h.next w' → Mv ρ h.get h.next w ρ' S.h.get S.h.next w' → Q .normal a' w') →
    wpOps P ops Q (List.range' i l.length) a w
  | [], i, prev, loc, t, h, S, a, w, ρ, hl, hd, hr, hG, hs, hR, hQ => by
    cases hr
    exact hQ ρ a w prev hs hR (Mv.refl _ _ _ _)
  | o :: l, i, prev, loc, t, h, S, a, w, ρ, hl, hd, hr, hG, hs, hR, hQ => by
    have ho : ops[i]? = some o := by
      have : (ops.toList.drop i)[0]? = some o := by rw [hl]; rfl
      simpa using this
    have hl' : ops.toList.drop (i + 1) = l := by rw [← List.drop_drop, hl]; rfl
    have hdo : (∀ d, o.dst = some d → d < N) ∧ dOkOps N l = true := by
      unfold dOkOps at hd
      cases hdst : o.dst with
      | none => rw [hdst] at hd; exact ⟨(fun d h => by cases h), hd⟩
      | some d =>
        simp only [hdst] at hd
        cases hb : Nat.blt d N with
        | false => simp [hb] at hd
        | true => simp [hb] at hd; exact ⟨(fun d' h => by cases h; simpa [Nat.blt_eq] using hb), hd⟩
    -- the rest
    have rest : ∀ (ρ' : Rho) (S1 : Ev.S) (u : Value) (w1 : World), runOps (cOps P m ops.toList l (told o.dst prev)) env S1.loc S1.t S1.h = some S → Sr val ρ' N m (told o.dst prev) S1.loc S1.t (a.put o.dst u) → R val ρ' S1.h.get S1.h.next w1 →
        Mv ρ h.get h.next w ρ' S1.h.get S1.h.next w1 → wpOps P ops Q (List.range' (i + 1) l.length) (a.put o.dst u) w1 := by
      intro ρ' S1 u w1 h1 h2 h3 h4
      exact ops_wp hE hN l (i + 1) _ _ _ _ S _ w1 ρ' hl' hdo.2 h1 (hG.ext h4.ext) h2 h3 fun ρ2 a' w' prev' k1 k2 k3 => hQ ρ2 a' w' prev' k1 k2 (h4.trans k3)
    rw [List.length_cons, List.range'_succ, wpOps_cons]
    unfold wpOp
    rw [ho]
    simp only
    cases hgd : o.guard with
    | none =>
      have hw : Region.wanted o (yielded ops a.tmps) = true := by simp [Region.wanted, hgd]
      rw [if_pos hw]
      refine .inl ?_
      have e : cOps P m ops.toList (o :: l) prev = .cons (cStp P m prev (opnds o.op) (opK P o.op) (cKp m o.dst)) (cOps P m ops.toList l (told o.dst prev)) := by simp [cOps, hgd]
      rw [e] at hr
      obtain ⟨S1, hS1, hr⟩ := orec_some (show (Option.rec none (fun s => runOps (cOps P m ops.toList l (told o.dst prev)) env s.loc s.t s.h) (runStp (cStp P m prev (opnds o.op) (opK P o.op) (cKp m o.dst)) env loc t h) : Option Ev.S) = some S from hr)
      refine stp_wp hE.hval hE.gam hE.call hG hs hR hS1 fun v h' ρ' u w' hk hV hR' hM => ?_
      have hh := kp_h hk
      exact rest ρ' S1 u w' hr (hs.put hM.ext hV hdo.1 hk) (by rw [hh]; exact hR') (by rw [hh]; exact hM)
    | some jw =>
      obtain ⟨j, wt⟩ := jw
      cases hdj : dstOf ops.toList j with
      | none =>
        have e : cOps P m ops.toList (o :: l) prev = .cons .no .nil := by simp [cOps, hgd, hdj]
        rw [e] at hr
        cases hr
      | some d =>
        have e : cOps P m ops.toList (o :: l) prev = .gd (cRd P m prev (.tmp d)) wt (cKp m o.dst) (cStp P m prev (opnds o.op) (opK P o.op) (cKp m o.dst)) (cOps P m ops.toList l (told o.dst prev)) := by simp [cOps, hgd, hdj]
        rw [e] at hr
        obtain ⟨gv, hgv, hr⟩ := orec_some (show (Option.rec none (fun v => Option.rec none (fun s => runOps (cOps P m ops.toList l (told o.dst prev)) env s.loc s.t s.h)
          (Option.rec (Option.rec none (fun _ => kp (cKp m o.dst) (.tup []) loc t h) (asTup v)) (fun b => Bool.rec (kp (cKp m o.dst) (.tup []) loc t h) (runStp (cStp P m prev (opnds o.op) (opK P o.op) (cKp m o.dst)) env loc t h) (Bool.rec (not b) b wt)) (asBool v))) (rd (cRd P m prev (.tmp d)) loc t) : Option Ev.S) = some S from hr)
        obtain ⟨S1, hS1, hr⟩ := orec_some hr
        have hgV := rd_sound hG hs hgv
        obtain ⟨og, hog, hod⟩ := dstOf_some hdj
        have hy := told_guard (a := a) hog hod
        have skip : Region.wanted o (yielded ops a.tmps) = false → kp (cKp m o.dst) (.tup []) loc t h = some S1 → wpOps P ops Q (List.range' (i + 1) l.length) (a.put o.dst undef) w := by
          intro _ hk
          have hh := kp_h hk
          exact rest ρ S1 undef w hr (hs.put (Ext.refl _) V_undef hdo.1 hk) (by rw [hh]; exact hR) (by rw [hh]; exact Mv.refl _ _ _ _)
        rcases orec_or hS1 with ⟨_, hS1⟩ | ⟨b, hb, hS1⟩
        · obtain ⟨lt, hlt, hS1⟩ := orec_some hS1
          rw [asTup_some.1 hlt] at hgV
          obtain ⟨arr, harr, _⟩ := V_tup.1 hgV
          have hw : Region.wanted o (yielded ops a.tmps) = false := by
            simp only [Region.wanted, hgd, hy]
            rcases getD_tup harr with h0 | h0 <;> rw [h0] <;> rfl
          rw [if_neg (by rw [hw]; simp)]
          exact skip hw hS1
        · rw [asBool_some.1 hb] at hgV
          have hbv := getD_bool (V_bool.1 hgV)
          rw [bEq_eq] at hS1
          have hw : Region.wanted o (yielded ops a.tmps) = (b == wt) := by
            simp only [Region.wanted, hgd, hy, hbv]
            cases b <;> cases wt <;> rfl
          cases hbw : (b == wt) with
          | false =>
            rw [hbw] at hS1 hw
            rw [if_neg (by rw [hw]; simp)]
            exact skip hw hS1
          | true =>
            rw [hbw] at hS1 hw
            rw [if_pos hw]
            refine .inl ?_
            refine stp_wp hE.hval hE.gam hE.call hG hs hR hS1 fun v h' ρ' u w' hk hV hR' hM => ?_
            have hh := kp_h hk
            exact rest ρ' S1 u w' hr (hs.put hM.ext hV hdo.1 hk) (by rw [hh]; exact hR') (by rw [hh]; exact hM)

/-- What a piece of code comes to, by what the interpreter says of it. -/
def exOf : Ex → Exit
  | .nrm => .normal
  | .ext id => .exit id
  | .ret => .ret
/-- The state behind a step. -/
structure After (P : Program) (val : Nat → Value) (N m : Nat) (ρ : Rho) (h : Hp) (w : World) (t' : T) (h' : Hp) (a' : Act) (w' : World) : Prop where
  ex : ∃ ρ', Sr val ρ' N m [] [] t' a' ∧ R val ρ' h'.get h'.next w' ∧ Mv ρ h.get h.next w ρ' h'.get h'.next w'

theorem region_wp {env : Env} {ops : Array Oper} {id N m : Nat} {Q : Exit → Act → World → Prop} {t : T} {h : Hp} {S : S} {a : Act} {w : World} (hE : Ok P val env) (hN : dOkOps N ops.toList = true) (hr : runOps (cOps P m ops.toList ops.toList []) env [] t h = some S)
    (hG : Gl P ρ) (hs : Sr val ρ N m [] [] t a) (hR : R val ρ h.get h.next w) (hQ : ∀ a' w', After P val N m ρ h w S.t S.h a' w' → Q .normal a' w') : (Code.region id ops false).wp P Q a w := by
  refine wp_region ?_
  have := ops_wp (Q := Q) hE hN ops.toList 0 [] [] t h S a w ρ rfl hN hr hG hs hR fun ρ' a' w' prev' h1 h2 h3 => hQ a' w' ⟨⟨ρ', h1.close, h2, h3⟩⟩
  rw [List.range_eq_range']
  simpa using this
end Go.Ev
