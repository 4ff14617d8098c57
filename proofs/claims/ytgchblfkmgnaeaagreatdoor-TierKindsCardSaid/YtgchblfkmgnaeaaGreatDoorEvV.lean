/- Regions that draw their order: what the trace says of its memories and slots. -/
import Derived.Test.YtgchblfkmgnaeaaGreatDoorEvU
set_option linter.unusedVariables false
set_option linter.unusedSimpArgs false
set_option linter.unusedSectionVars false
namespace Go.Ev

variable {P : Program} {val : Nat → Value} {ops : Array Oper} {m : Nat} {t0 : T} {h0 : Hp} {st : Nat → DS} {tv : Nat → AV} {dd : Nat → Did}

/-- does the k-th operation make new memory? -/
def NwAt (P : Program) (ops : Array Oper) (k : Nat) : Prop := ∃ o, ops.toList[k]? = some o ∧ isNw (cls P o.op) = true
theorem at_lt {j : Nat} (h : j < ops.size) : ∃ o, ops.toList[j]? = some o := ⟨ops[j], by simp [h]⟩

section
variable (hT : Tc P val ops m t0 h0 st tv dd)
include hT

omit hT in
theorem nwCount_take {all : List Oper} : ∀ {j : Nat} {o : Oper}, all[j]? = some o → nwCount P (all.take (j + 1)) = nwCount P (all.take j) + if isNw (cls P o.op) = true then 1 else 0 := by
  induction all with
  | nil => intro j o h; simp at h
  | cons q l ih =>
    intro j o h
    cases j with
    | zero =>
      simp at h
      subst h
      simp only [List.take_succ_cons, List.take_zero, nwCount]
      cases isNw (cls P q.op) <;> rfl
    | succ j =>
      have := ih (j := j) (o := o) (by simpa using h)
      simp only [List.take_succ_cons, nwCount]
      rw [this]
      cases isNw (cls P q.op) <;> simp <;> omega
omit hT in
theorem nwCount_mono {all : List Oper} : ∀ {i j : Nat}, i ≤ j → nwCount P (all.take i) ≤ nwCount P (all.take j) := by
  induction all with
  | nil => intro i j _; simp
  | cons q l ih =>
    intro i j h
    cases i with
    | zero => simp [nwCount]
    | succ i =>
      cases j with
      | zero => omega
      | succ j =>
        have := ih (i := i) (j := j) (by omega)
        simp only [List.take_succ_cons, nwCount]
        cases isNw (cls P q.op) <;> simp <;> omega
theorem Tc.res : ∀ j, j ≤ ops.size → num (st j).res = num h0.next + nwCount P (ops.toList.take j)
  | 0, _ => by rw [hT.init]; simp [nwCount]
  | j + 1, h => by
    obtain ⟨o, ho⟩ := at_lt (ops := ops) (j := j) (by omega)
    rw [(hT.step j o ho).1, nwCount_take ho]
    have ih := Tc.res j (by omega)
    cases hb : isNw (cls P o.op) with
    | false => show num (st j).res = _; rw [ih]; simp
    | true => show num (inc (st j).res) = _; rw [num_inc, ih]; simp; omega
theorem Tc.nw {k : Nat} {ob : Ob} (hk : k < ops.size) (hd : dd k = .new ob) : NwAt P ops k := by
  obtain ⟨o, ho⟩ := at_lt hk
  have := (hT.step k o ho).2.1
  rw [hd] at this
  exact ⟨o, ho, this.2.2⟩
theorem Tc.res_lt {k : Nat} (h : NwAt P ops k) : num (st k).res < num h0.next + nwCount P ops.toList := by
  obtain ⟨o, ho, hb⟩ := h
  have hk : k < ops.size := by simpa using (List.getElem?_eq_some_iff.1 ho).1
  have h1 := hT.res k (by omega)
  have h2 := nwCount_take (P := P) ho
  have h3 := nwCount_mono (P := P) (all := ops.toList) (i := k + 1) (j := ops.size) (by omega)
  rw [show ops.toList.take ops.size = ops.toList by rw [← Array.length_toList, List.take_length]] at h3
  rw [if_pos hb] at h2
  omega
theorem Tc.res_inj {i j : Nat} (hi : NwAt P ops i) (hj : NwAt P ops j) (h : (st i).res = (st j).res) : i = j := by
  have key : ∀ {i j : Nat}, NwAt P ops i → NwAt P ops j → i < j → num (st i).res < num (st j).res := by
    intro i j hi hj hij
    obtain ⟨o, ho, hb⟩ := hi
    obtain ⟨o', ho', _⟩ := hj
    have hj' : j < ops.size := by simpa using (List.getElem?_eq_some_iff.1 ho').1
    have h1 := hT.res i (by omega)
    have h2 := hT.res j (by omega)
    have h3 := nwCount_take (P := P) ho
    have h4 := nwCount_mono (P := P) (all := ops.toList) (i := i + 1) (j := j) (by omega)
    rw [if_pos hb] at h3
    omega
  rcases Nat.lt_trichotomy i j with h1 | h1 | h1
  · have := key hi hj h1; rw [h] at this; omega
  · exact h1
  · have := key hj hi h1; rw [h] at this; omega
theorem Tc.h_eff {j : Nat} {F : Hp → Option (AV × Hp)} {out : Hp} {sv : Option (Nat × List AV)} (hj : j < ops.size) (hd : dd j = .eff F out sv) : (st (j + 1)).h = out := by
  obtain ⟨o, ho⟩ := at_lt hj
  rw [(hT.step j o ho).1]
  simp only [nxS, upS, hd]
theorem Tc.h_non {j : Nat} (hj : j < ops.size) (hd : isE (dd j) = false) : (st (j + 1)).h = (st j).h := by
  obtain ⟨o, ho⟩ := at_lt hj
  rw [(hT.step j o ho).1]
  cases hx : dd j with
  | eff F out sv => rw [hx] at hd; cases hd
  | _ => simp only [nxS, upS]
theorem Tc.h_still {q : Nat} : ∀ (k : Nat), q + k ≤ ops.size → (∀ e, q ≤ e → e < q + k → isE (dd e) = false) → (st (q + k)).h = (st q).h
  | 0, _, _ => rfl
  | k + 1, h, he => by
    have := hT.h_non (j := q + k) (by omega) (he _ (by omega) (by omega))
    rw [show q + (k + 1) = q + k + 1 by omega, this]
    exact Tc.h_still k (by omega) fun e h1 h2 => he e h1 (by omega)
theorem Tc.h_same {q q' : Nat} (hle : q ≤ q') (hn : q' ≤ ops.size) (he : ∀ e, q ≤ e → e < q' → isE (dd e) = false) : (st q').h = (st q).h := by
  have := hT.h_still (q := q) (q' - q) (by omega) (fun e h1 h2 => he e h1 (by omega))
  rwa [show q + (q' - q) = q' by omega] at this
end

/-- Does new memory of the k-th operation float, q operations told? -/
def flt (all : List Oper) (dd : Nat → Did) (q k : Nat) : Prop := ∀ e, e < q → isE (dd e) = true → Nat.testBit (Aof all e) k = false
theorem flt_mono {all : List Oper} {q q' k : Nat} (h : flt all dd q' k) (hle : q ≤ q') : flt all dd q k := fun e he => h e (by omega)
theorem flt_still {all : List Oper} {q q' k : Nat} (hle : q ≤ q') (he : ∀ e, q ≤ e → e < q' → isE (dd e) = false) : flt all dd q' k ↔ flt all dd q k := by
  refine ⟨fun h => flt_mono h hle, fun h e h1 h2 => ?_⟩
  rcases Nat.lt_or_ge e q with h3 | h3
  · exact h e h3 h2
  · rw [he e h3 h1] at h2; cases h2
theorem flt_eff {all : List Oper} {j k : Nat} (hd : isE (dd j) = true) : flt all dd (j + 1) k ↔ flt all dd j k ∧ Nat.testBit (Aof all j) k = false := by
  constructor
  · intro h; exact ⟨flt_mono h (by omega), h j (by omega) hd⟩
  · rintro ⟨h1, h2⟩ e he hE
    rcases Nat.lt_or_ge e j with h3 | h3
    · exact h1 e h3 hE
    · have : e = j := by omega
      subst this; exact h2

section
variable (hT : Tc P val ops m t0 h0 st tv dd)
include hT
theorem Tc.pend : ∀ j, j ≤ ops.size → ∀ p, p ∈ (st j).pend ↔ p.i < j ∧ dd p.i = .new p.o ∧ p.r = (st p.i).res ∧ flt ops.toList dd j p.i
  | 0, _, p => by rw [hT.init]; simp
  | j + 1, h, p => by
    obtain ⟨o, ho⟩ := at_lt (ops := ops) (j := j) (by omega)
    have ih := Tc.pend j (by omega) p
    rw [(hT.step j o ho).1]
    have old : isE (dd j) = false → (flt ops.toList dd (j + 1) p.i ↔ flt ops.toList dd j p.i) := fun he => flt_still (by omega) fun e h1 h2 => by
      have : e = j := by omega
      rw [this]; exact he
    cases hx : dd j with
    | quiet =>
      simp only [nxS, upS]
      rw [ih, old (by rw [hx]; rfl)]
      constructor
      · rintro ⟨h1, h2⟩; exact ⟨by omega, h2⟩
      · rintro ⟨h1, h2, h3⟩
        have : p.i ≠ j := by rintro h; rw [h, hx] at h2; cases h2
        exact ⟨by omega, h2, h3⟩
    | read F =>
      simp only [nxS, upS]
      rw [ih, old (by rw [hx]; rfl)]
      constructor
      · rintro ⟨h1, h2⟩; exact ⟨by omega, h2⟩
      · rintro ⟨h1, h2, h3⟩
        have : p.i ≠ j := by rintro h; rw [h, hx] at h2; cases h2
        exact ⟨by omega, h2, h3⟩
    | new ob =>
      simp only [nxS, upS]
      rw [List.mem_cons, ih, old (by rw [hx]; rfl)]
      constructor
      · rintro (rfl | ⟨h1, h2⟩)
        · refine ⟨by simp, hx, rfl, fun e he hE => ?_⟩
          cases hb : Nat.testBit (Aof ops.toList e) j with
          | false => rfl
          | true => have := hT.plan.lt e hb; omega
        · exact ⟨by omega, h2⟩
      · rintro ⟨h1, h2, h3, h4⟩
        by_cases hj : p.i = j
        · left
          obtain ⟨pi, pr, po⟩ := p
          simp only at hj h2 h3
          subst hj
          rw [hx] at h2
          cases h2
          rw [h3]
        · exact .inr ⟨by omega, h2, h3, h4⟩
    | eff F out sv =>
      simp only [nxS, upS]
      rw [mem_unlaid, ih, flt_eff (by rw [hx]; rfl)]
      constructor
      · rintro ⟨⟨h1, h2, h3, h4⟩, h5⟩; exact ⟨by omega, h2, h3, h4, h5⟩
      · rintro ⟨h1, h2, h3, h4, h5⟩
        have : p.i ≠ j := by rintro h; rw [h, hx] at h2; cases h2
        exact ⟨⟨by omega, h2, h3, h4⟩, h5⟩
theorem Tc.rds {k : Nat} {F : Hp → Option AV} (hd : dd k = .read F) : ∀ j, j ≤ ops.size → k < j → (⟨k, Aof ops.toList k, F, tv k⟩ : Rx) ∈ (st j).rds
  | 0, _, hk => by omega
  | j + 1, h, hk => by
    obtain ⟨o, ho⟩ := at_lt (ops := ops) (j := j) (by omega)
    rw [(hT.step j o ho).1]
    by_cases hj : k = j
    · subst hj
      simp only [nxS, upS, hd]
      exact List.mem_cons_self
    · have ih := Tc.rds hd j (by omega) (by omega)
      cases hx : dd j with
      | read G => simp only [nxS, upS]; exact List.mem_cons_of_mem _ ih
      | _ => simp only [nxS, upS]; exact ih
theorem Tc.hist {k : Nat} {F : Hp → Option (AV × Hp)} {out : Hp} {sv : Option (Nat × List AV)} (hd : dd k = .eff F out sv) : ∀ j, j ≤ ops.size → k < j →
    (⟨k, (st k).h, (st k).pend, lay (Aof ops.toList k) (st k).pend (st k).h, sv⟩ : Hx) ∈ (st j).hist
  | 0, _, hk => by omega
  | j + 1, h, hk => by
    obtain ⟨o, ho⟩ := at_lt (ops := ops) (j := j) (by omega)
    rw [(hT.step j o ho).1]
    by_cases hj : k = j
    · subst hj
      simp only [nxS, upS, hd]
      exact List.mem_cons_self
    · have ih := Tc.hist hd j (by omega) (by omega)
      cases hx : dd j with
      | eff G out' sv' => simp only [nxS, upS]; exact List.mem_cons_of_mem _ ih
      | _ => simp only [nxS, upS]; exact ih
theorem Tc.hist_head {k : Nat} {F : Hp → Option (AV × Hp)} {out : Hp} {sv : Option (Nat × List AV)} (hd : dd k = .eff F out sv) : ∀ j, j ≤ ops.size → k < j → (∀ e, k < e → e < j → isE (dd e) = false) →
    ∃ l, (st j).hist = (⟨k, (st k).h, (st k).pend, lay (Aof ops.toList k) (st k).pend (st k).h, sv⟩ : Hx) :: l
  | 0, _, hk, _ => by omega
  | j + 1, h, hk, he => by
    obtain ⟨o, ho⟩ := at_lt (ops := ops) (j := j) (by omega)
    rw [(hT.step j o ho).1]
    by_cases hj : k = j
    · subst hj
      simp only [nxS, upS, hd]
      exact ⟨_, rfl⟩
    · have ih := Tc.hist_head hd j (by omega) (by omega) fun e h1 h2 => he e h1 (by omega)
      have hn := he j (by omega) (by omega)
      cases hx : dd j with
      | eff G out' sv' => rw [hx] at hn; cases hn
      | _ => simp only [nxS, upS]; exact ih

/-- the slots -/
theorem Tc.told {k d : Nat} {ok : Oper} (hok : ops.toList[k]? = some ok) (hd : ok.dst = some d) : ∀ j, j ≤ ops.size → k < j →
    (∃ i, locIdx (prevAt ops.toList j) d = some i ∧ (st j).loc[i]? = some (tv k)) ∧ (Nat.testBit m d = true → (st j).t.get (pth d) = some (tv k))
  | 0, _, hk => by omega
  | j + 1, h, hk => by
    obtain ⟨o, ho⟩ := at_lt (ops := ops) (j := j) (by omega)
    rw [(hT.step j o ho).1, prevAt_succ ho]
    have hd' : ∀ d', o.dst = some d' → d' = d → k = j := fun d' h1 h2 => hT.plan.uniq k j ok o d hok ho hd (h2 ▸ h1)
    by_cases hj : k = j
    · subst hj
      rw [hok] at ho
      cases ho
      rw [hd]
      simp only [nxS, upS, cKp]
      refine ⟨⟨0, by simp [Ev.told, locIdx], ?_⟩, fun hb => ?_⟩
      · cases Nat.testBit m d <;> simp [kpL]
      · simp only [hb, cond_true, kpT]
        rw [Tr.get_set, if_pos rfl]
    · obtain ⟨⟨i, ih1, ih2⟩, ih3⟩ := Tc.told hok hd j (by omega) (by omega)
      cases ho' : o.dst with
      | none =>
        simp only [nxS, upS, cKp, Ev.told, kpL, kpT]
        exact ⟨⟨i, ih1, ih2⟩, ih3⟩
      | some d' =>
        have hne : d' ≠ d := fun e => hj (hd' d' ho' e)
        simp only [nxS, upS, cKp]
        refine ⟨⟨i + 1, by simp [Ev.told, locIdx, hne, ih1], ?_⟩, fun hb => ?_⟩
        · cases Nat.testBit m d' <;> simpa [kpL] using ih2
        · cases hb' : Nat.testBit m d' with
          | false => simp only [cond_false, kpT]; exact ih3 hb
          | true =>
            simp only [cond_true, kpT]
            rw [Tr.get_set, if_neg (fun e => hne (pth_inj e).symm)]
            exact ih3 hb
theorem Tc.untold {d : Nat} : ∀ j, j ≤ ops.size → (∀ k o, k < j → ops.toList[k]? = some o → o.dst ≠ some d) → locIdx (prevAt ops.toList j) d = none ∧ (st j).t.get (pth d) = t0.get (pth d)
  | 0, _, _ => by rw [hT.init]; exact ⟨rfl, rfl⟩
  | j + 1, h, hn => by
    obtain ⟨o, ho⟩ := at_lt (ops := ops) (j := j) (by omega)
    obtain ⟨ih1, ih2⟩ := Tc.untold (d := d) j (by omega) fun k q hk => hn k q (by omega)
    rw [(hT.step j o ho).1, prevAt_succ ho]
    have hne := hn j o (by omega) ho
    cases ho' : o.dst with
    | none => simp only [nxS, upS, cKp, Ev.told, kpT]; exact ⟨ih1, ih2⟩
    | some d' =>
      have hne : d' ≠ d := fun e => hne (by rw [ho', e])
      simp only [nxS, upS, cKp]
      refine ⟨by simp [Ev.told, locIdx, hne, ih1], ?_⟩
      cases hb' : Nat.testBit m d' with
      | false => simp only [cond_false, kpT]; exact ih2
      | true =>
        simp only [cond_true, kpT]
        rw [Tr.get_set, if_neg (fun e => hne (pth_inj e).symm)]
        exact ih2
end

/-! The memory that stands when some operations are done. -/
open Classical in
/-- new memory of those operations -/
noncomputable def flo (n : Nat) (st : Nat → DS) (dd : Nat → Did) (p : Nat → Prop) : Gt := fun r => if h : ∃ o k, k < n ∧ p k ∧ dd k = .new o ∧ (st k).res = r then some h.choose else none
section
variable (hT : Tc P val ops m t0 h0 st tv dd)
include hT
theorem Tc.flo_some {p : Nat → Prop} {r : Id} {o : Ob} : flo ops.size st dd p r = some o ↔ ∃ k, k < ops.size ∧ p k ∧ dd k = .new o ∧ (st k).res = r := by
  unfold flo
  constructor
  · intro h
    split at h
    · rename_i hx
      cases h
      exact hx.choose_spec
    · cases h
  · rintro ⟨k, h1, h2, h3, h4⟩
    have hx : ∃ o k, k < ops.size ∧ p k ∧ dd k = .new o ∧ (st k).res = r := ⟨o, k, h1, h2, h3, h4⟩
    rw [dif_pos hx]
    obtain ⟨k', g1, g2, g3, g4⟩ := hx.choose_spec
    have : k' = k := hT.res_inj (hT.nw g1 g3) (hT.nw h1 h3) (g4.trans h4.symm)
    subst this
    rw [h3] at g3
    injection g3 with g3
    rw [← g3]
theorem Tc.flo_none {p : Nat → Prop} {r : Id} : flo ops.size st dd p r = none ↔ ∀ k o, k < ops.size → p k → dd k = .new o → (st k).res ≠ r := by
  constructor
  · intro h k o h1 h2 h3 h4
    have := hT.flo_some.2 ⟨k, h1, h2, h3, h4⟩
    rw [h] at this
    cases this
  · intro h
    cases hx : flo ops.size st dd p r with
    | none => rfl
    | some o => obtain ⟨k, h1, h2, h3, h4⟩ := hT.flo_some.1 hx; exact (h k o h1 h2 h3 h4).elim
theorem Tc.flo_congr {p p' : Nat → Prop} (h : ∀ k o, k < ops.size → dd k = .new o → (p k ↔ p' k)) : flo ops.size st dd p = flo ops.size st dd p' := by
  funext r
  cases hx : flo ops.size st dd p' r with
  | none =>
    rw [hT.flo_none] at hx ⊢
    exact fun k o h1 h2 h3 => hx k o h1 ((h k o h1 h3).1 h2) h3
  | some o =>
    rw [hT.flo_some] at hx ⊢
    obtain ⟨k, h1, h2, h3, h4⟩ := hx
    exact ⟨k, h1, (h k o h1 h3).2 h2, h3, h4⟩
theorem Tc.flo_add {p : Nat → Prop} {j : Nat} {o : Ob} (hj : j < ops.size) (hd : dd j = .new o) : flo ops.size st dd (fun k => k = j ∨ p k) = upd (flo ops.size st dd p) (st j).res o := by
  funext r
  by_cases e : r = (st j).res
  · rw [e, upd_self, hT.flo_some]
    exact ⟨j, hj, .inl rfl, hd, rfl⟩
  · rw [upd_ne e]
    cases hx : flo ops.size st dd p r with
    | none =>
      rw [hT.flo_none] at hx ⊢
      rintro k o' h1 (rfl | h2) h3
      · exact fun k => e k.symm
      · exact hx k o' h1 h2 h3
    | some o' =>
      rw [hT.flo_some] at hx ⊢
      obtain ⟨k, h1, h2, h3, h4⟩ := hx
      exact ⟨k, h1, .inr h2, h3, h4⟩
end
/-- The memory: what floats, what the effects so far left. -/
noncomputable def GL (all : List Oper) (n : Nat) (st : Nat → DS) (dd : Nat → Did) (L : Nat → Prop) (q : Nat) : Gt := fun r => (flo n st dd (fun k => L k ∧ flt all dd q k) r).or ((st q).h.get r)
section
variable (hT : Tc P val ops m t0 h0 st tv dd)
include hT
theorem Tc.GL_congr {L L' : Nat → Prop} {q : Nat} (h : ∀ k o, k < ops.size → dd k = .new o → (L k ↔ L' k)) : GL ops.toList ops.size st dd L q = GL ops.toList ops.size st dd L' q := by
  unfold GL
  rw [hT.flo_congr fun k o h1 h2 => by rw [h k o h1 h2]]
theorem Tc.GL_still {L : Nat → Prop} {q q' : Nat} (hle : q ≤ q') (hn : q' ≤ ops.size) (he : ∀ e, q ≤ e → e < q' → isE (dd e) = false) : GL ops.toList ops.size st dd L q' = GL ops.toList ops.size st dd L q := by
  unfold GL
  rw [hT.h_same hle hn he, hT.flo_congr (p' := fun k => L k ∧ flt ops.toList dd q k) fun k o _ _ => by rw [flt_still hle he]]
/-- a part of memory laid on: it is part of what stands -/
theorem Tc.lay_sub {L : Nat → Prop} {q : Nat} {anc : Nat} {l : List Pd} {h : Hp} (hh : (st q).h = h) (hl : ∀ p ∈ l, Nat.testBit anc p.i = true → p.i < ops.size ∧ L p.i ∧ flt ops.toList dd q p.i ∧ dd p.i = .new p.o ∧ p.r = (st p.i).res) :
    ∀ r o, (lay anc l h).get r = some o → (∀ k ob, k < ops.size → L k → flt ops.toList dd q k → dd k = .new ob → (st q).h.get (st k).res = none) → GL ops.toList ops.size st dd L q r = some o := by
  intro r o hr hdis
  unfold GL
  by_cases hx : ∃ p ∈ l, Nat.testBit anc p.i = true ∧ p.r = r
  · obtain ⟨p, hp, h1, h2, h3⟩ := lay_some (h := h) hx
    rw [h3] at hr
    cases hr
    obtain ⟨k1, k2, k3, k4, k5⟩ := hl p hp h1
    rw [hT.flo_some.2 ⟨p.i, k1, ⟨k2, k3⟩, k4, k5 ▸ h2⟩]
    rfl
  · rw [lay_none (fun p hp h1 h2 => hx ⟨p, hp, h1, h2⟩)] at hr
    cases hf : flo ops.size st dd (fun k => L k ∧ flt ops.toList dd q k) r with
    | none => rw [hh, hr]; rfl
    | some o' =>
      obtain ⟨k, k1, ⟨k2, k3⟩, k4, k5⟩ := hT.flo_some.1 hf
      have := hdis k o' k1 k2 k3 k4
      rw [k5, hh, hr] at this
      cases this
end
end Go.Ev
