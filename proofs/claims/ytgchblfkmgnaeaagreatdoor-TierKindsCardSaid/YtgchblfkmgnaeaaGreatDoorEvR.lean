/- Regions that draw their order: what each step does. -/
import Derived.Test.YtgchblfkmgnaeaaGreatDoorEvS
set_option linter.unusedVariables false
set_option linter.unusedSimpArgs false
set_option linter.unusedSectionVars false
namespace Go.Ev

variable {P : Program} {val : Nat → Value}

def kpL (k : Kp) (v : AV) (loc : List AV) : List AV := match k with | .drop => loc | _ => v :: loc
noncomputable def kpT (k : Kp) (v : AV) (t : T) : T := match k with | .set r => t.set r v | _ => t
theorem kp_eq (k : Kp) (v : AV) (loc : List AV) (t : T) (h : Hp) : kp k v loc t h = some ⟨kpL k v loc, kpT k v t, h⟩ := by cases k <;> rfl

/-- What a step was. -/
inductive Did where
  | quiet
  | read (F : Hp → Option AV)
  | new (o : Ob)
  | eff (F : Hp → Option (AV × Hp)) (out : Hp) (st : Option (Nat × List AV))
def isE : Did → Bool | .eff .. => true | _ => false
def isQ : Did → Bool | .quiet => true | _ => false
def obFree : Ob → Prop | .row true _ => False | _ => True
theorem obFree_ro {ρ : Rho} {L : Loc} {heap : Array Obj} {o : Ob} (h : obFree o) (hO : ObR val ρ L heap o) : L.ro = false := by
  cases o with
  | row ro cs => cases ro with
    | true => exact h.elim
    | false => exact hO.1
  | mp es c => exact hO.1
  | mit m a s l => exact hO.1
theorem runAl_free {f : Fal} {vs : List AV} {n : Nw} (h : runAl f vs = some n) : obFree n.o := by
  cases f with
  | alloc z => cases h; trivial
  | box => obtain ⟨v, _, h⟩ := orec_some h; cases h; trivial
  | bslice k sz z ps => obtain ⟨v, _, h⟩ := orec_some h; cases h; trivial
  | mslice sz z =>
    obtain ⟨q, _, h⟩ := orec_some h
    obtain ⟨l, _, h⟩ := orec_some h
    obtain ⟨c, _, h⟩ := orec_some h
    obtain ⟨_, h⟩ := brec_true h
    obtain ⟨_, h⟩ := brec_true h
    cases h; trivial
  | mmap => cases h; trivial
  | sbytes =>
    obtain ⟨q, _, h⟩ := orec_some h
    obtain ⟨l, _, h⟩ := orec_some h
    cases h; trivial

/-- what an operation asks for: its operands, its guard. -/
noncomputable def asked (all : List Oper) (o : Oper) : List Operand := opnds o.op ++ (match o.guard with | some (j, _) => (dstOf all j).toList.map .tmp | none => [])
/-- What is asked for is as it is told. -/
def OpV (P : Program) (val : Nat → Value) (ρ : Rho) (m : Nat) (prev : List Nat) (all : List Oper) (o : Oper) (s : DS) (a : Act) : Prop :=
  ∀ x ∈ asked all o, ∀ v, rd (cRd P m prev x) s.loc s.t = some v → V val ρ v (a.eval x)

section
variable {ρ : Rho} {m : Nat} {prev : List Nat} {all : List Oper} {o : Oper} {s : DS} {a : Act}
theorem OpV.op (h : OpV P val ρ m prev all o s a) {x : Operand} (hx : x ∈ opnds o.op) {v : AV} (hv : rd (cRd P m prev x) s.loc s.t = some v) : V val ρ v (a.eval x) := h x (List.mem_append_left _ hx) v hv
theorem rds_opv : ∀ {l : List Operand} {vs : List AV} {loc : List AV} {t : T}, (∀ x ∈ l, ∀ v, rd (cRd P m prev x) loc t = some v → V val ρ v (a.eval x)) → rds (l.map (cRd P m prev)) loc t = some vs → Vs val ρ vs (l.map a.eval)
  | [], vs, loc, t, _, h => by cases h; exact Vs_nil
  | x :: l, vs, loc, t, H, h => by
    have e : rds ((x :: l).map (cRd P m prev)) loc t = Option.rec none (fun v => Option.rec none (fun vs => some (v :: vs)) (rds (l.map (cRd P m prev)) loc t)) (rd (cRd P m prev x) loc t) := rfl
    rw [e] at h
    obtain ⟨v, hv, h⟩ := orec_some h
    obtain ⟨r, hr, h⟩ := orec_some h
    cases h
    exact Vs_cons (H x (by simp) v hv) (rds_opv (fun y hy => H y (by simp [hy])) hr)
theorem OpV.ops (h : OpV P val ρ m prev all o s a) {vs : List AV} (hv : rds ((opnds o.op).map (cRd P m prev)) s.loc s.t = some vs) : Vs val ρ vs ((opnds o.op).map a.eval) :=
  rds_opv (fun _ hx _ hv => h.op hx hv) hv
end

/-- What a step comes to. -/
def Tell (P : Program) (val : Nat → Value) (m : Nat) (prev : List Nat) (all : List Oper) (o : Oper) (s : DS) (v : AV) : Did → Prop
  | .quiet => ∀ ρ a w (K : Act → World → Prop) (Q : Exit → Act → World → Prop), OpV P val ρ m prev all o s a → (∀ u, V val ρ v u → K (a.put o.dst u) w) → o.wp P a w K Q
  | .read F => ∀ ρ a w (K : Act → World → Prop) (Q : Exit → Act → World → Prop) h, OpV P val ρ m prev all o s a → Rd val ρ h.get w → F h = some v → (∀ u, V val ρ v u → K (a.put o.dst u) w) → o.wp P a w K Q
  | .new ob => ∀ ρ a w (K : Act → World → Prop) (Q : Exit → Act → World → Prop), OpV P val ρ m prev all o s a → ρ s.res = none →
      (∀ u w' L, Grew w w' → L.blk = w.heap.size → V val (upd ρ s.res L) v u → ObR val (upd ρ s.res L) L w'.heap ob → K (a.put o.dst u) w') → o.wp P a w K Q
  | .eff F _ _ => ∀ ρ a w (K : Act → World → Prop) (Q : Exit → Act → World → Prop) h v h', OpV P val ρ m prev all o s a → Gl P ρ → R val ρ h.get h.next w → F h = some (v, h') →
      (∀ ρ' u w', V val ρ' v u → R val ρ' h'.get h'.next w' → Mv ρ h.get h.next w ρ' h'.get h'.next w' → K (a.put o.dst u) w') → o.wp P a w K Q
def Fits (P : Program) (j anc : Nat) (o : Oper) (s : DS) (v : AV) : Did → Prop
  | .quiet => True
  | .read F => F (lay anc s.pend s.h) = some v ∧ seenBack anc F v s.hist = true ∧ isPure (cls P o.op) = false
  | .new ob => isPure (cls P o.op) = false ∧ obFree ob ∧ isNw (cls P o.op) = true
  | .eff F out st => F (lay anc s.pend s.h) = some (v, out) ∧ seenOn anc (unlaid anc s.pend) out s.rds = true ∧ swapOk anc st s.hist = true ∧ (∀ n vs, st = some (n, vs) → F = storeF n vs) ∧ isEff (cls P o.op) = true ∧ isPure (cls P o.op) = false ∧ (isSt (cls P o.op) = true → st ≠ none)
/-- the state behind a step. -/
noncomputable def upS (k : Kp) (j anc : Nat) (v : AV) (d : Did) (s : DS) : DS where
  loc := kpL k v s.loc
  t := kpT k v s.t
  h := match d with | .eff _ out _ => out | _ => s.h
  res := s.res
  pend := match d with | .new o => ⟨j, s.res, o⟩ :: s.pend | .eff .. => unlaid anc s.pend | _ => s.pend
  hist := match d with | .eff _ _ st => ⟨j, s.h, s.pend, lay anc s.pend s.h, st⟩ :: s.hist | _ => s.hist
  rds := match d with | .read F => ⟨j, anc, F, v⟩ :: s.rds | _ => s.rds

theorem dput_eq (k : Kp) (v : AV) (loc : List AV) (t : T) (h : Hp) (s : DS) : dput s (kp k v loc t h) = some ⟨kpL k v loc, kpT k v t, h, s.res, s.pend, s.hist, s.rds⟩ := by rw [kp_eq]; rfl

theorem cls_p1 {op : Op} {f : Fn1} (h : opK P op = .p1 f) : isPure (cls P op) = true := by simp [cls, h, isPure]
theorem cls_read {op : Op} (h : (∃ f, opK P op = .r1 f) ∨ ∃ a b c, opK P op = .r2 a b c) : isPure (cls P op) = false := by
  rcases h with ⟨f, h⟩ | ⟨a, b, c, h⟩ <;> simp [cls, h, isPure]
theorem cls_new {op : Op} {f : Fal} (h : opK P op = .al f) : isPure (cls P op) = false ∧ isNw (cls P op) = true := by simp [cls, h, isPure, isNw]
theorem cls_ef {op : Op} {f : Fef} (h : opK P op = .ef f) : isEff (cls P op) = true ∧ isPure (cls P op) = false ∧ (isSt (cls P op) = true → ∃ n, f = .store n) := by
  cases f <;> simp [cls, h, isPure, isEff, isSt]
theorem cls_cl {op : Op} (h : opK P op = .cl) : isEff (cls P op) = true ∧ isPure (cls P op) = false ∧ isSt (cls P op) = false := by simp [cls, h, isPure, isEff, isSt]

theorem runD1_spec {env : Env} (hE : Ok P val env) {m : Nat} {prev : List Nat} {all : List Oper} {o : Oper} {j anc : Nat} {s s1 : DS} {k : Kp} (hr : runD1 j anc (cStp P m prev (opnds o.op) (opK P o.op) k) env s = some s1) :
    ∃ v d, s1 = upS k j anc v d s ∧ Fits P j anc o s v d ∧ Tell P val m prev all o s v d := by
  have hna := not_agg hE.hval
  cases hk : opK P o.op with
  | p1 f =>
    rw [hk] at hr
    match hO : opnds o.op with
    | [] => rw [hO] at hr; cases hr
    | [x] =>
      rw [hO] at hr
      obtain ⟨av, ha, hr⟩ := orec_some hr
      obtain ⟨v, hv, hr⟩ := orec_some hr
      rw [dput_eq] at hr
      cases hr
      refine ⟨v, .quiet, rfl, trivial, fun ρ a w K Q hs hK => ?_⟩
      have hx := hs.op (x := x) (by rw [hO]; simp) ha
      rcases orO_some hv with hv | hv
      · obtain ⟨u, hu, hV⟩ := p1_sound (e := a.eval) (w := w) hk hO hx hv
        exact value_wp hu (hK u hV)
      · obtain ⟨u, hu, hV⟩ := hE.gam.g1 f av v hv ρ o a.eval x w hk hO hx
        exact value_wp hu (hK u hV)
    | x :: y :: l => rw [hO] at hr; cases hr
  | p2 f =>
    rw [hk] at hr
    match hO : opnds o.op with
    | [] => rw [hO] at hr; cases hr
    | [x] => rw [hO] at hr; cases hr
    | [x, y] =>
      rw [hO] at hr
      obtain ⟨av, ha, hr⟩ := orec_some hr
      obtain ⟨bv, hb, hr⟩ := orec_some hr
      obtain ⟨v, hv, hr⟩ := orec_some hr
      rw [dput_eq] at hr
      cases hr
      refine ⟨v, .quiet, rfl, trivial, fun ρ a w K Q hs hK => ?_⟩
      have hx := hs.op (x := x) (by rw [hO]; simp) ha
      have hy := hs.op (x := y) (by rw [hO]; simp) hb
      rcases orO_some hv with hv | hv
      · obtain ⟨u, hu, hV⟩ := p2_sound (e := a.eval) (w := w) hk hO hx hy (fun c => rfl) hv
        exact value_wp hu (hK u hV)
      · obtain ⟨u, hu, hV⟩ := hE.gam.g2 f av bv v hv ρ o a.eval x y w hk hO hx hy (fun _ => rfl)
        exact value_wp hu (hK u hV)
    | x :: y :: z :: l => rw [hO] at hr; cases hr
  | p3 =>
    rw [hk] at hr
    match hO : opnds o.op with
    | [] => rw [hO] at hr; cases hr
    | [x] => rw [hO] at hr; cases hr
    | [x, y] => rw [hO] at hr; cases hr
    | [x, y, z] =>
      rw [hO] at hr
      obtain ⟨av, ha, hr⟩ := orec_some hr
      obtain ⟨bv, hb, hr⟩ := orec_some hr
      obtain ⟨cv, hc, hr⟩ := orec_some hr
      obtain ⟨v, hv, hr⟩ := orec_some hr
      rw [dput_eq] at hr
      cases hr
      refine ⟨v, .quiet, rfl, trivial, fun ρ a w K Q hs hK => ?_⟩
      obtain ⟨u, hu, hV⟩ := p3_sound (e := a.eval) (w := w) hk hO (hs.op (x := x) (by rw [hO]; simp) ha) (hs.op (x := y) (by rw [hO]; simp) hb) (hs.op (x := z) (by rw [hO]; simp) hc) hv
      exact value_wp hu (hK u hV)
    | x :: y :: z :: q :: l => rw [hO] at hr; cases hr
  | pn f =>
    rw [hk] at hr
    obtain ⟨av, ha, hr⟩ := orec_some hr
    obtain ⟨v, hv, hr⟩ := orec_some hr
    rw [dput_eq] at hr
    cases hr
    refine ⟨v, .quiet, rfl, trivial, fun ρ a w K Q hs hK => ?_⟩
    obtain ⟨u, hu, hV⟩ := pn_sound (e := a.eval) (w := w) hna hk (hs.ops ha) hv
    exact value_wp hu (hK u hV)
  | r1 f =>
    rw [hk] at hr
    match hO : opnds o.op with
    | [] => rw [hO] at hr; cases hr
    | [x] =>
      rw [hO] at hr
      obtain ⟨av, ha, hr⟩ := orec_some hr
      obtain ⟨v, hv, hr⟩ := orec_some hr
      obtain ⟨hsb, hr⟩ := brec_true hr
      rw [dput_eq] at hr
      cases hr
      refine ⟨v, .read (fun h => runR1 f h av), rfl, ⟨hv, hsb, cls_read (.inl ⟨_, hk⟩)⟩, fun ρ a w K Q h hs hR hf hK => ?_⟩
      obtain ⟨u, hu, hV⟩ := r1_sound (e := a.eval) (w := w) hk hO hR (hs.op (x := x) (by rw [hO]; simp) ha) hf
      exact value_wp hu (hK u hV)
    | x :: y :: l => rw [hO] at hr; cases hr
  | r2 kt z ok =>
    rw [hk] at hr
    match hO : opnds o.op with
    | [] => rw [hO] at hr; cases hr
    | [x] => rw [hO] at hr; cases hr
    | [x, y] =>
      rw [hO] at hr
      obtain ⟨av, ha, hr⟩ := orec_some hr
      obtain ⟨bv, hb, hr⟩ := orec_some hr
      obtain ⟨v, hv, hr⟩ := orec_some hr
      obtain ⟨hsb, hr⟩ := brec_true hr
      rw [dput_eq] at hr
      cases hr
      refine ⟨v, .read (fun h => lookupF kt z ok h av bv), rfl, ⟨hv, hsb, cls_read (.inr ⟨_, _, _, hk⟩)⟩, fun ρ a w K Q h hs hR hf hK => ?_⟩
      obtain ⟨u, hu, hV⟩ := r2_sound (e := a.eval) (w := w) hk hO hR (hs.op (x := x) (by rw [hO]; simp) ha) (hs.op (x := y) (by rw [hO]; simp) hb) hf
      exact value_wp hu (hK u hV)
    | x :: y :: z :: l => rw [hO] at hr; cases hr
  | al f =>
    rw [hk] at hr
    obtain ⟨av, ha, hr⟩ := orec_some hr
    obtain ⟨nw, hn, hr⟩ := orec_some hr
    rw [dput_eq] at hr
    cases hr
    refine ⟨nw.v s.res, .new nw.o, rfl, ⟨(cls_new hk).1, runAl_free hn, (cls_new hk).2⟩, fun ρ a w K Q hs hid hK => ?_⟩
    obtain ⟨u, w', L, hu, hgw, hb, hV, hO⟩ := al_sound (e := a.eval) (w := w) hna hk (hs.ops ha) hn s.res hid
    exact value_wp hu (hK u w' L hgw hb hV hO)
  | ef f =>
    rw [hk] at hr
    obtain ⟨av, ha, hr⟩ := orec_some hr
    obtain ⟨p, hp, hr⟩ := orec_some hr
    obtain ⟨h1, hr⟩ := brec_true hr
    obtain ⟨h2, hr⟩ := brec_true hr
    rw [dput_eq] at hr
    cases hr
    obtain ⟨c1, c2, c3⟩ := cls_ef hk
    refine ⟨p.1, .eff (fun h => runEf f av h) p.2 (isStore f av), rfl, ⟨hp, h1, h2, ?_, c1, c2, ?_⟩, fun ρ a w K Q h v h' hs hG hR hf hK => ?_⟩
    · intro n vs hst
      cases f with
      | store n' => cases hst; rfl
      | _ => cases hst
    · intro h
      obtain ⟨n, rfl⟩ := c3 h
      intro hh
      cases hh
    · obtain ⟨ρ', nx, u, w', h1, h2, h3, h4, h5⟩ := ef_sound (e := a.eval) (w := w) hE.hval hk hR (hs.ops ha) hf
      exact told_wp h1 h2 (hK ρ' u w' h3 h4 h5)
  | cl =>
    rw [hk] at hr
    obtain ⟨av, ha, hr⟩ := orec_some hr
    obtain ⟨p, hp, hr⟩ := orec_some hr
    obtain ⟨h1, hr⟩ := brec_true hr
    obtain ⟨h2, hr⟩ := brec_true hr
    rw [dput_eq] at hr
    cases hr
    obtain ⟨c1, c2, c3⟩ := cls_cl hk
    refine ⟨p.1, .eff (fun h => callV env.call av h) p.2 none, rfl, ⟨hp, h1, h2, ?_, c1, c2, ?_⟩, fun ρ a w K Q h v h' hs hG hR hf hK => ?_⟩
    · intro n vs hst; cases hst
    · intro h; rw [c3] at h; cases h
    · exact callV_wp hE.call hG hR hk (hs.ops ha) hf fun ρ' u w' h1 h2 h3 => hK ρ' u w' h1 h2 h3
  | no =>
    rw [hk] at hr
    cases hr

/-- one step. -/
noncomputable def stepD (d : DStp) (e : Env) (s : DS) : Option DS := Option.rec (runD1 d.i d.anc d.s e s) (fun g => runDg d.i d.anc g d.s e s) d.g
noncomputable def nxS (b : Bool) (s : DS) : DS := ⟨s.loc, s.t, s.h, Bool.rec s.res (inc s.res) b, s.pend, s.hist, s.rds⟩
theorem runDs_cons (d : DStp) (l : List DStp) (e : Env) (s : DS) : runDs (d :: l) e s = Option.rec none (fun s => runDs l e (nxS d.nw s)) (stepD d e s) := rfl
theorem trace_of {e : Env} : ∀ {l : List DStp} {s s' : DS}, runDs l e s = some s' → ∃ st : Nat → DS, st 0 = s ∧ st l.length = s' ∧ ∀ j d, l[j]? = some d → ∃ s1, stepD d e (st j) = some s1 ∧ st (j + 1) = nxS d.nw s1
  | [], s, s', h => by cases h; exact ⟨fun _ => s, rfl, rfl, fun j d h => by simp at h⟩
  | d :: l, s, s', h => by
    rw [runDs_cons] at h
    obtain ⟨s1, h1, h⟩ := orec_some h
    obtain ⟨st, e0, en, hst⟩ := trace_of h
    refine ⟨fun j => match j with | 0 => s | j + 1 => st j, rfl, en, fun j d' hj => ?_⟩
    cases j with
    | zero => simp at hj; subst hj; exact ⟨s1, h1, e0⟩
    | succ j => exact hst j d' (by simpa using hj)

/-- what was told ahead of the j-th operation. -/
def prevAt (all : List Oper) (j : Nat) : List Nat := (all.take j).foldl (fun p o => told o.dst p) []
theorem prevAt_succ {all : List Oper} {j : Nat} {o : Oper} (h : all[j]? = some o) : prevAt all (j + 1) = told o.dst (prevAt all j) := by
  unfold prevAt
  rw [List.take_add_one, h]
  simp
noncomputable def gOf (P : Program) (m : Nat) (all : List Oper) (prev : List Nat) (o : Oper) : Option (Rdr × Bool × Kp) :=
  match o.guard with | some (j, w) => (match dstOf all j with | some d => some (cRd P m prev (.tmp d), w, cKp m o.dst) | none => none) | none => none
theorem cD_get (P : Program) (m : Nat) (all : List Oper) (an : List Nat) : ∀ (l : List Oper) (i : Nat), all.drop i = l → ∀ j o, l[j]? = some o →
    (cD P m all an l (prevAt all i) i)[j]? = some (⟨i + j, (nth an (i + j)).getD 0, gOf P m all (prevAt all (i + j)) o, cStp P m (prevAt all (i + j)) (opnds o.op) (opK P o.op) (cKp m o.dst), isNw (cls P o.op)⟩ : DStp)
  | [], i, hl, j, o, h => by simp at h
  | q :: l, i, hl, j, o, h => by
    have ho : all[i]? = some q := by
      have : (all.drop i)[0]? = some q := by rw [hl]; rfl
      simpa using this
    have hl' : all.drop (i + 1) = l := by rw [← List.drop_drop, hl]; rfl
    cases j with
    | zero => simp at h; subst h; rfl
    | succ j =>
      have := cD_get P m all an l (i + 1) hl' j o (by simpa using h)
      rw [prevAt_succ ho] at this
      have e : cD P m all an (q :: l) (prevAt all i) i = (⟨i, (nth an i).getD 0, gOf P m all (prevAt all i) q, cStp P m (prevAt all i) (opnds q.op) (opK P q.op) (cKp m q.dst), isNw (cls P q.op)⟩ : DStp) :: cD P m all an l (told q.dst (prevAt all i)) (i + 1) := rfl
      rw [e, List.getElem?_cons_succ, this]
      have : i + 1 + j = i + (j + 1) := by omega
      rw [this]
theorem cD_len (P : Program) (m : Nat) (all : List Oper) (an : List Nat) : ∀ (l : List Oper) (p : List Nat) (i : Nat), (cD P m all an l p i).length = l.length
  | [], p, i => rfl
  | o :: l, p, i => by
    have : (cD P m all an (o :: l) p i).length = (cD P m all an l (told o.dst p) (i + 1)).length + 1 := rfl
    rw [this, cD_len P m all an l]; rfl

/-- A step: it runs, or its guard lets it out. -/
structure Step (P : Program) (val : Nat → Value) (m : Nat) (ops : Array Oper) (j anc : Nat) (prev : List Nat) (o : Oper) (s : DS) (v : AV) (d : Did) (s1 : DS) : Prop where
  eq : s1 = upS (cKp m o.dst) j anc v d s
  fits : Fits P j anc o s v d
  run : ((∀ ρ a, OpV P val ρ m prev ops.toList o s a → Region.wanted o (yielded ops a.tmps) = true) ∧ Tell P val m prev ops.toList o s v d) ∨
    ((∀ ρ a, OpV P val ρ m prev ops.toList o s a → Region.wanted o (yielded ops a.tmps) = false) ∧ d = .quiet ∧ v = .tup [])

theorem stepD_spec {env : Env} (hE : Ok P val env) {m : Nat} {nw : Bool} {prev : List Nat} {ops : Array Oper} {o : Oper} {j anc : Nat} {s s1 : DS} (hgd : ∀ g w, o.guard = some (g, w) → (dstOf ops.toList g).isSome = true)
    (hr : stepD ⟨j, anc, gOf P m ops.toList prev o, cStp P m prev (opnds o.op) (opK P o.op) (cKp m o.dst), nw⟩ env s = some s1) : ∃ v d, Step P val m ops j anc prev o s v d s1 := by
  cases hg : o.guard with
  | none =>
    have hr : runD1 j anc (cStp P m prev (opnds o.op) (opK P o.op) (cKp m o.dst)) env s = some s1 := by simpa [stepD, gOf, hg] using hr
    obtain ⟨v, d, h1, h2, h3⟩ := runD1_spec (all := ops.toList) hE hr
    exact ⟨v, d, h1, h2, .inl ⟨fun ρ a _ => by simp [Region.wanted, hg], h3⟩⟩
  | some gw =>
    obtain ⟨g, wt⟩ := gw
    obtain ⟨d, hd⟩ := Option.isSome_iff_exists.1 (hgd g wt hg)
    have hr : runDg j anc (cRd P m prev (.tmp d), wt, cKp m o.dst) (cStp P m prev (opnds o.op) (opK P o.op) (cKp m o.dst)) env s = some s1 := by simpa [stepD, gOf, hg, hd] using hr
    obtain ⟨gv, hgv, hr⟩ := orec_some hr
    obtain ⟨og, hog, hod⟩ := dstOf_some hd
    have hmem : Operand.tmp d ∈ asked ops.toList o := by simp [asked, hg, hd]
    have skip : (∀ ρ a, OpV P val ρ m prev ops.toList o s a → Region.wanted o (yielded ops a.tmps) = false) → dput s (kp (cKp m o.dst) (.tup []) s.loc s.t s.h) = some s1 → ∃ v d, Step P val m ops j anc prev o s v d s1 := by
      intro h1 h2
      rw [dput_eq] at h2
      cases h2
      exact ⟨.tup [], .quiet, rfl, trivial, .inr ⟨h1, rfl, rfl⟩⟩
    rcases orec_or hr with ⟨_, hr⟩ | ⟨b, hb, hr⟩
    · obtain ⟨lt, hlt, hr⟩ := orec_some hr
      refine skip (fun ρ a hO => ?_) hr
      have hgV := hO _ hmem gv hgv
      rw [asTup_some.1 hlt] at hgV
      obtain ⟨arr, harr, _⟩ := V_tup.1 hgV
      simp only [Region.wanted, hg, told_guard (a := a) hog hod]
      rcases getD_tup harr with h0 | h0 <;> rw [h0] <;> rfl
    · have hw : ∀ ρ a, OpV P val ρ m prev ops.toList o s a → Region.wanted o (yielded ops a.tmps) = (wt == b) := by
        intro ρ a hO
        have hgV := hO _ hmem gv hgv
        rw [asBool_some.1 hb] at hgV
        have hbv := getD_bool (V_bool.1 hgV)
        simp only [Region.wanted, hg, told_guard (a := a) hog hod, hbv]
        cases b <;> cases wt <;> rfl
      have hbe : bEq wt b = (wt == b) := by cases b <;> cases wt <;> rfl
      have hr : (Bool.rec (dput s (kp (cKp m o.dst) (.tup []) s.loc s.t s.h)) (runD1 j anc (cStp P m prev (opnds o.op) (opK P o.op) (cKp m o.dst)) env s) (bEq wt b) : Option DS) = some s1 := hr
      rw [hbe] at hr
      cases hbw : (wt == b) with
      | false =>
        rw [hbw] at hr hw
        exact skip hw hr
      | true =>
        rw [hbw] at hr hw
        obtain ⟨v, d, h1, h2, h3⟩ := runD1_spec (all := ops.toList) hE hr
        exact ⟨v, d, h1, h2, .inl ⟨hw, h3⟩⟩
end Go.Ev
