/- Regions that are run in the order of their text. -/
import Derived.Test.YtilmbaeedbfldaaGreatDoorEvN
set_option linter.unusedVariables false
set_option linter.unusedSimpArgs false
set_option linter.unusedSectionVars false
namespace Go.Ev

variable {P : Program} {val : Nat → Value} {ρ : Rho}

/-- A function called from an operation: it runs, or tells at once. -/
def FnOk (P : Program) (f : FuncId) (args : Array Value) (w : World) (K : Value → World → Prop) : Prop :=
  match (callFunc f args).run P w with
  | .ok (.value v) w' => K v w'
  | .ok (.enter f args) w' => Calls P f args w' fun e w'' => ∃ u, e = .returned u ∧ K u w''
  | _ => False
/-- Where the package's variables stand. -/
def Gl (P : Program) (ρ : Rho) : Prop := ∀ g, g < P.globals.size → ∃ L, ρ (pth g) = some L ∧ L.blk = g ∧ L.sh = 0
theorem Gl.ext {ρ' : Rho} (h : Gl P ρ) (he : Ext ρ ρ') : Gl P ρ' := fun g hg => let ⟨L, h1, h2⟩ := h g hg; ⟨L, he _ _ h1, h2⟩
def CallOk (P : Program) (val : Nat → Value) (call : CallF) : Prop := ∀ f as h v h', call f as h = some (v, h') → ∀ ρ args w, Gl P ρ → Vs val ρ as args.toList → R val ρ h.get h.next w →
  FnOk P f args w fun u w' => ∃ ρ', V val ρ' v u ∧ R val ρ' h'.get h'.next w' ∧ Mv ρ h.get h.next w ρ' h'.get h'.next w'
/-- What is known of values that are not looked into. -/
structure GamOk (P : Program) (val : Nat → Value) (g : Gam) : Prop where
  g1 : ∀ f a v, g.g1 f a = some v → ∀ ρ o e x w, opK P o.op = .p1 f → opnds o.op = [x] → V val ρ a (e x) → ∃ u, (execOp e o).run P w = .ok (.value u) w ∧ V val ρ v u
  g2 : ∀ f a b v, g.g2 f a b = some v → ∀ ρ o e x y w, opK P o.op = .p2 f → opnds o.op = [x, y] → V val ρ a (e x) → V val ρ b (e y) → (∀ c, e (.const c) = c) → ∃ u, (execOp e o).run P w = .ok (.value u) w ∧ V val ρ v u

/-- The slots. -/
structure Sr (val : Nat → Value) (ρ : Rho) (N m : Nat) (prev : List Nat) (loc : List AV) (t : T) (a : Act) : Prop where
  loc : ∀ d n v, locIdx prev d = some n → loc[n]? = some v → V val ρ v (a.tmps.getD d undef)
  slot : ∀ d v, Nat.testBit m d = true → t.get (pth d) = some v → V val ρ v (a.tmps.getD d undef)
  size : N ≤ a.tmps.size
  nodef : a.defers = []

theorem getD_put {a : Act} {d i : Nat} {u : Value} (hd : d < a.tmps.size) : (a.put (some d) u).tmps.getD i undef = if i = d then u else a.tmps.getD i undef := by
  simp only [Act.put, Array.getD_eq_getD_getElem?]
  by_cases h : i = d
  · subst h; rw [if_pos rfl, Array.getElem?_setIfInBounds_self_of_lt hd]; rfl
  · rw [if_neg h, Array.getElem?_setIfInBounds_ne (Ne.symm h)]
theorem kp_h {k : Kp} {v : AV} {loc : List AV} {t : T} {h : Hp} {S : S} (hk : kp k v loc t h = some S) : S.h = h := by
  cases k <;> cases hk <;> rfl
theorem Sr.put {ρ' : Rho} {N m : Nat} {prev : List Nat} {loc : List AV} {t : T} {a : Act} {h : Hp} {S : Ev.S} {dst : Option Nat} {v : AV} {u : Value} (hs : Sr val ρ N m prev loc t a) (he : Ext ρ ρ') (hV : V val ρ' v u) (hd : ∀ d, dst = some d → d < N)
    (hk : kp (cKp m dst) v loc t h = some S) : Sr val ρ' N m (told dst prev) S.loc S.t (a.put dst u) := by
  cases dst with
  | none =>
    have hk : some (⟨loc, t, h⟩ : Ev.S) = some S := hk
    cases hk
    exact ⟨fun d n x h1 h2 => V_mono he _ _ (hs.loc d n x h1 h2), fun d x h1 h2 => V_mono he _ _ (hs.slot d x h1 h2), hs.size, hs.nodef⟩
  | some d =>
    have hlt : d < a.tmps.size := Nat.lt_of_lt_of_le (hd d rfl) hs.size
    have hloc : S.loc = v :: loc := by
      unfold cKp at hk
      cases hb : Nat.testBit m d with
      | true => simp only [hb, cond_true] at hk; cases hk; rfl
      | false => simp only [hb, cond_false] at hk; cases hk; rfl
    refine ⟨?_, ?_, by simpa [Act.put] using hs.size, hs.nodef⟩
    · intro i n x h1 h2
      rw [getD_put hlt]
      rw [hloc] at h2
      have h1 : (if d = i then some 0 else (locIdx prev i).map (· + 1)) = some n := h1
      by_cases e : d = i
      · rw [if_pos e] at h1
        cases h1
        rw [if_pos e.symm]
        simp at h2
        subst h2
        exact hV
      · rw [if_neg e] at h1
        rw [if_neg (Ne.symm e)]
        cases hj : locIdx prev i with
        | none => rw [hj] at h1; cases h1
        | some j =>
          rw [hj] at h1
          cases h1
          exact V_mono he _ _ (hs.loc i j x hj (by simpa using h2))
    · intro i x h1 h2
      rw [getD_put hlt]
      by_cases e : i = d
      · subst e
        rw [if_pos rfl]
        unfold cKp at hk
        simp only [h1, cond_true] at hk
        cases hk
        have h2 : (t.set (pth i) v).get (pth i) = some x := h2
        rw [Tr.get_set, if_pos rfl] at h2
        cases h2
        exact hV
      · rw [if_neg e]
        refine V_mono he _ _ (hs.slot i x h1 ?_)
        unfold cKp at hk
        cases hb : Nat.testBit m d with
        | true =>
          simp only [hb, cond_true] at hk
          cases hk
          have h2 : (t.set (pth d) v).get (pth i) = some x := h2
          rwa [Tr.get_set, if_neg (fun k => e (pth_inj k))] at h2
        | false => simp only [hb, cond_false] at hk; cases hk; exact h2
theorem Sr.ext {ρ' : Rho} {N m : Nat} {prev : List Nat} {loc : List AV} {t : T} {a : Act} (hs : Sr val ρ N m prev loc t a) (he : Ext ρ ρ') : Sr val ρ' N m prev loc t a :=
  ⟨fun d n v h1 h2 => V_mono he _ _ (hs.loc d n v h1 h2), fun d v h1 h2 => V_mono he _ _ (hs.slot d v h1 h2), hs.size, hs.nodef⟩
theorem Sr.close {N m : Nat} {prev : List Nat} {loc : List AV} {t : T} {a : Act} (hs : Sr val ρ N m prev loc t a) : Sr val ρ N m [] [] t a :=
  ⟨(fun d n v h1 h2 => by cases h1), hs.slot, hs.size, hs.nodef⟩

theorem rd_sound {N m : Nat} {prev : List Nat} {loc : List AV} {t : T} {a : Act} (hG : Gl P ρ) (hs : Sr val ρ N m prev loc t a) {x : Operand} {v : AV} (h : rd (cRd P m prev x) loc t = some v) : V val ρ v (a.eval x) := by
  cases x with
  | tmp i =>
    unfold cRd at h
    cases hi : locIdx prev i with
    | some n =>
      simp only [hi] at h
      have h : nth loc n = some v := h
      rw [nth_eq] at h
      exact hs.loc i n v hi h
    | none =>
      simp only [hi] at h
      cases hb : Nat.testBit m i with
      | true => simp only [hb, cond_true] at h; exact hs.slot i v hb h
      | false => simp only [hb, cond_false] at h; cases h
  | const c => exact (ofValue_spec h).1
  | global g =>
    unfold cRd at h
    cases hb : Nat.blt g P.globals.size with
    | true =>
      simp only [hb, cond_true] at h
      cases h
      obtain ⟨L, h1, h2, h3⟩ := hG g (by simpa [Nat.blt_eq] using hb)
      exact V_ptr.2 ⟨L, h1, by rw [h2, h3]; rfl⟩
    | false => simp only [hb, cond_false] at h; cases h
  | func f => cases h; exact V_fn.2 ⟨#[], #[], rfl, Vs_nil, Vs_nil⟩
theorem rds_sound {N m : Nat} {prev : List Nat} {loc : List AV} {t : T} {a : Act} (hG : Gl P ρ) (hs : Sr val ρ N m prev loc t a) : ∀ {l : List Operand} {vs : List AV}, rds (l.map (cRd P m prev)) loc t = some vs → Vs val ρ vs (l.map a.eval)
  | [], vs, h => by cases h; exact Vs_nil
  | x :: l, vs, h => by
    have e : rds ((x :: l).map (cRd P m prev)) loc t = Option.rec none (fun v => Option.rec none (fun vs => some (v :: vs)) (rds (l.map (cRd P m prev)) loc t)) (rd (cRd P m prev x) loc t) := rfl
    rw [e] at h
    obtain ⟨v, hv, h⟩ := orec_some h
    obtain ⟨r, hr, h⟩ := orec_some h
    cases h
    exact Vs_cons (rd_sound hG hs hv) (rds_sound hG hs hr)

theorem orO_some {x y : Option AV} {v : AV} (h : orO x y = some v) : x = some v ∨ y = some v := by
  cases x with
  | none => exact .inr h
  | some a => exact .inl h

section
variable {o : Oper} {a : Act} {w : World} {N m : Nat} {prev : List Nat} {loc : List AV} {t : T} {h : Hp} {env : Env} {S : S} {k : Kp} {K : Act → World → Prop} {Q : Exit → Act → World → Prop}

theorem value_wp {v : Value} {w' : World} (h : (execOp a.eval o).run P w = .ok (.value v) w') (hK : K (a.put o.dst v) w') : o.wp P a w K Q := by
  unfold Oper.wp
  rw [h]
  exact hK
theorem told_wp {nx : Next} {u : Value} {w' : World} (h : (execOp a.eval o).run P w = .ok nx w') (hn : toldOf nx = some u) (hK : K (a.put o.dst u) w') : o.wp P a w K Q := by
  unfold Oper.wp
  rw [h]
  cases nx <;> simp [toldOf] at hn
  · subst hn; exact hK
  · subst hn; exact hK

theorem callV_wp (hC : CallOk P val env.call) (hG : Gl P ρ) (hR : R val ρ h.get h.next w) {as : List AV} {v : AV} {h' : Hp} (hcl : opK P o.op = .cl) (ha : Vs val ρ as ((opnds o.op).map a.eval)) (hf : callV env.call as h = some (v, h'))
    (hK : ∀ ρ' u w', V val ρ' v u → R val ρ' h'.get h'.next w' → Mv ρ h.get h.next w ρ' h'.get h'.next w' → K (a.put o.dst u) w') : o.wp P a w K Q := by
  have hS := opK_shape (P := P) (op := o.op) (by rw [hcl]; simp)
  rw [hcl] at hS
  obtain ⟨dst, op, type, pos, after, guard⟩ := o
  simp only at hS ha hcl hK
  cases hS with
  | callV c f hc =>
    obtain ⟨callee, args, argTypes⟩ := c
    simp only at hc
    subst hc
    cases as with
    | nil => cases hf
    | cons fv as =>
      obtain ⟨p, hp, hf⟩ := orec_some hf
      rw [asFn_some] at hp
      subst hp
      simp only [opnds, List.map_cons] at ha
      obtain ⟨_, _, h1, hF, hA⟩ := Vs_cons_iff.1 ha
      cases h1
      obtain ⟨xs, ys, hfv, hX, hY⟩ := V_fn.1 hF
      have hall : Vs val ρ (allArgs p.2.1 as p.2.2) (xs ++ args.map a.eval ++ ys).toList := by
        have h0 : allArgs p.2.1 as p.2.2 = p.2.1 ++ (as ++ p.2.2) := by
          unfold allArgs
          cases p.2.1 with
          | nil => cases p.2.2 with
            | nil => simp
            | cons b l => show cat as (b :: l) = _; rw [cat_eq]; rfl
          | cons b l => show cat (b :: l) (cat as p.2.2) = _; rw [cat_eq, cat_eq]
        rw [h0]
        have : (xs ++ args.map a.eval ++ ys).toList = xs.toList ++ (args.toList.map a.eval ++ ys.toList) := by simp
        rw [this]
        exact Vs_append hX (Vs_append hA hY)
      have hcall := hC _ _ _ _ _ hf ρ _ w hG hall hR
      unfold FnOk at hcall
      have hrun : (execOp a.eval ⟨dst, .call ⟨.value f, args, argTypes⟩, type, pos, after, guard⟩).run P w = (callFunc p.1 (xs ++ args.map a.eval ++ ys)).run P w := by
        simp [execOp, resolve, hfv, Deferred.ofValue, invoke]
      unfold Oper.wp
      rw [hrun]
      split at hcall
      · rename_i v' w' hr
        obtain ⟨ρ', h1, h2, h3⟩ := hcall
        rw [hr]
        exact hK ρ' v' w' h1 h2 h3
      · rename_i f' args' w' hr
        rw [hr]
        refine Calls.mono hcall fun e w'' he => ?_
        obtain ⟨u, rfl, ρ', h1, h2, h3⟩ := he
        exact hK ρ' u w'' h1 h2 h3
      · exact hcall.elim

theorem stp_wp (hval : ∀ i, (val i).oneCell' = true) (hg : GamOk P val env.g) (hC : CallOk P val env.call) (hG : Gl P ρ) (hs : Sr val ρ N m prev loc t a) (hR : R val ρ h.get h.next w)
    (hr : runStp (cStp P m prev (opnds o.op) (opK P o.op) k) env loc t h = some S)
    (hK : ∀ v h' ρ' u w', kp k v loc t h' = some S → V val ρ' v u → R val ρ' h'.get h'.next w' → Mv ρ h.get h.next w ρ' h'.get h'.next w' → K (a.put o.dst u) w') : o.wp P a w K Q := by
  have hna := not_agg hval
  cases hk : opK P o.op with
  | p1 f =>
    rw [hk] at hr
    match hO : opnds o.op with
    | [] => rw [hO] at hr; cases hr
    | [x] =>
      rw [hO] at hr
      obtain ⟨av, ha, hr⟩ := orec_some hr
      obtain ⟨v, hv, hr⟩ := orec_some hr
      rcases orO_some hv with hv | hv
      · obtain ⟨u, hu, hV⟩ := p1_sound (e := a.eval) (w := w) hk hO (rd_sound hG hs ha) hv
        exact value_wp hu (hK v h ρ u w hr hV hR (Mv.refl _ _ _ _))
      · obtain ⟨u, hu, hV⟩ := hg.g1 f av v hv ρ o a.eval x w hk hO (rd_sound hG hs ha)
        exact value_wp hu (hK v h ρ u w hr hV hR (Mv.refl _ _ _ _))
    | x :: y :: l => rw [hO] at hr; cases hr
  | p2 f =>
    rw [hk] at hr
    match hO : opnds o.op with
    | [] => rw [hO] at hr; cases hr
    | [x] => rw [hO] at hr; cases hr
    | [x, y] =>
      rw [hO] at hr
      obtain ⟨av, ha, hr⟩ := orec_some hr
      obtain ⟨bv, hb, hr⟩ := orec_some hr
      obtain ⟨v, hv, hr⟩ := orec_some hr
      rcases orO_some hv with hv | hv
      · obtain ⟨u, hu, hV⟩ := p2_sound (e := a.eval) (w := w) hk hO (rd_sound hG hs ha) (rd_sound hG hs hb) (fun c => rfl) hv
        exact value_wp hu (hK v h ρ u w hr hV hR (Mv.refl _ _ _ _))
      · obtain ⟨u, hu, hV⟩ := hg.g2 f av bv v hv ρ o a.eval x y w hk hO (rd_sound hG hs ha) (rd_sound hG hs hb) (fun _ => rfl)
        exact value_wp hu (hK v h ρ u w hr hV hR (Mv.refl _ _ _ _))
    | x :: y :: z :: l => rw [hO] at hr; cases hr
  | p3 =>
    rw [hk] at hr
    match hO : opnds o.op with
    | [] => rw [hO] at hr; cases hr
    | [x] => rw [hO] at hr; cases hr
    | [x, y] => rw [hO] at hr; cases hr
    | [x, y, z] =>
      rw [hO] at hr
      obtain ⟨av, ha, hr⟩ := orec_some hr
      obtain ⟨bv, hb, hr⟩ := orec_some hr
      obtain ⟨cv, hc, hr⟩ := orec_some hr
      obtain ⟨v, hv, hr⟩ := orec_some hr
      obtain ⟨u, hu, hV⟩ := p3_sound (e := a.eval) (w := w) hk hO (rd_sound hG hs ha) (rd_sound hG hs hb) (rd_sound hG hs hc) hv
      exact value_wp hu (hK v h ρ u w hr hV hR (Mv.refl _ _ _ _))
    | x :: y :: z :: q :: l => rw [hO] at hr; cases hr
  | pn f =>
    rw [hk] at hr
    obtain ⟨av, ha, hr⟩ := orec_some hr
    obtain ⟨v, hv, hr⟩ := orec_some hr
    obtain ⟨u, hu, hV⟩ := pn_sound (e := a.eval) (w := w) hna hk (rds_sound hG hs ha) hv
    exact value_wp hu (hK v h ρ u w hr hV hR (Mv.refl _ _ _ _))
  | r1 f =>
    rw [hk] at hr
    match hO : opnds o.op with
    | [] => rw [hO] at hr; cases hr
    | [x] =>
      rw [hO] at hr
      obtain ⟨av, ha, hr⟩ := orec_some hr
      obtain ⟨v, hv, hr⟩ := orec_some hr
      obtain ⟨u, hu, hV⟩ := r1_sound (e := a.eval) (w := w) hk hO hR.ob (rd_sound hG hs ha) hv
      exact value_wp hu (hK v h ρ u w hr hV hR (Mv.refl _ _ _ _))
    | x :: y :: l => rw [hO] at hr; cases hr
  | r2 kt z ok =>
    rw [hk] at hr
    match hO : opnds o.op with
    | [] => rw [hO] at hr; cases hr
    | [x] => rw [hO] at hr; cases hr
    | [x, y] =>
      rw [hO] at hr
      obtain ⟨av, ha, hr⟩ := orec_some hr
      obtain ⟨bv, hb, hr⟩ := orec_some hr
      obtain ⟨v, hv, hr⟩ := orec_some hr
      obtain ⟨u, hu, hV⟩ := r2_sound (e := a.eval) (w := w) hk hO hR.ob (rd_sound hG hs ha) (rd_sound hG hs hb) hv
      exact value_wp hu (hK v h ρ u w hr hV hR (Mv.refl _ _ _ _))
    | x :: y :: z :: l => rw [hO] at hr; cases hr
  | al f =>
    rw [hk] at hr
    obtain ⟨av, ha, hr⟩ := orec_some hr
    obtain ⟨nw, hn, hr⟩ := orec_some hr
    have hid : ρ h.next = none := hR.fr _ (Nat.le_refl _)
    have hlt : num h.next < num (inc h.next) := by rw [num_inc]; omega
    obtain ⟨u, w', L, hu, hgw, hb, hV, hO⟩ := al_sound (e := a.eval) (w := w) hna hk (rds_sound hG hs ha) hn h.next hid
    refine value_wp hu (hK (nw.v h.next) (h.new nw.o) _ u w' hr hV ?_ ?_)
    · rw [Hp.get_new]; exact hR.alloc hid hlt (Nat.le_of_lt hlt) hgw hb hO
    · rw [Hp.get_new]; exact Mv.alloc hid (Nat.le_refl _) (Nat.le_of_lt hlt) hgw hb
  | ef f =>
    rw [hk] at hr
    obtain ⟨av, ha, hr⟩ := orec_some hr
    obtain ⟨p, hp, hr⟩ := orec_some hr
    obtain ⟨ρ', nx, u, w', h1, h2, h3, h4, h5⟩ := ef_sound (e := a.eval) (w := w) hval hk hR (rds_sound hG hs ha) (show runEf f av h = some (p.1, p.2) from hp)
    exact told_wp h1 h2 (hK p.1 p.2 ρ' u w' hr h3 h4 h5)
  | cl =>
    rw [hk] at hr
    obtain ⟨av, ha, hr⟩ := orec_some hr
    obtain ⟨p, hp, hr⟩ := orec_some hr
    exact callV_wp hC hG hR hk (rds_sound hG hs ha) (show callV env.call av h = some (p.1, p.2) from hp) fun ρ' u w' h1 h2 h3 => hK p.1 p.2 ρ' u w' hr h1 h2 h3
  | no =>
    rw [hk] at hr
    cases hr
end
end Go.Ev
