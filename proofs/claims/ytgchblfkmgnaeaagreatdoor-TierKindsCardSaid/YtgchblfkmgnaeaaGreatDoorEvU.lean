/- Regions that draw their order: the plan, the trace. -/
import Derived.Test.YtgchblfkmgnaeaaGreatDoorEvR
set_option linter.unusedVariables false
set_option linter.unusedSimpArgs false
set_option linter.unusedSectionVars false
namespace Go.Ev

variable {P : Program} {val : Nat → Value}

noncomputable def Aof (all : List Oper) (j : Nat) : Nat := (nth (ancs all []) j).getD 0

theorem fold_bit {α : Type} {f : Nat → α → Nat} {c : α → Bool} {k : Nat} (hf : ∀ m e, Nat.testBit (f m e) k = (Nat.testBit m k || c e)) : ∀ (l : List α) (m : Nat), Nat.testBit (l.foldl f m) k = (Nat.testBit m k || l.any c)
  | [], m => by simp
  | e :: l, m => by rw [List.foldl_cons, fold_bit hf l, hf]; simp [Bool.or_assoc]
theorem ancOf_bit (o : Oper) (l : List Nat) (k : Nat) : Nat.testBit (ancOf o l) k = o.after.toList.any fun e => Region.binds .any e && (e.on == k || (match nth l e.on with | some m => Nat.testBit m k | none => false)) := by
  unfold ancOf
  rw [fold_bit (c := fun e => Region.binds .any e && (e.on == k || (match nth l e.on with | some m => Nat.testBit m k | none => false)))]
  · simp
  · intro m e
    cases Region.binds .any e with
    | false => simp
    | true =>
      simp only [cond_true, Nat.testBit_or, Bool.true_and, Bool.or_assoc, Nat.testBit_two_pow]
      have hb : (e.on == k) = decide (e.on = k) := by by_cases h : e.on = k <;> simp [h]
      rw [hb]
      cases nth l e.on <;> simp
theorem ancs_spec : ∀ (l : List Oper) (acc : List Nat), (ancs l acc).length = acc.length + l.length ∧ (∀ i, i < acc.length → (ancs l acc)[i]? = acc[i]?) ∧
    ∀ i o, l[i]? = some o → (ancs l acc)[acc.length + i]? = some (ancOf o ((ancs l acc).take (acc.length + i)))
  | [], acc => ⟨rfl, fun _ _ => rfl, fun i o h => by simp at h⟩
  | o :: l, acc => by
    obtain ⟨h1, h2, h3⟩ := ancs_spec l (acc ++ [ancOf o acc])
    have e : ancs (o :: l) acc = ancs l (acc ++ [ancOf o acc]) := rfl
    rw [e]
    refine ⟨by rw [h1]; simp; omega, fun i hi => by rw [h2 i (by simp; omega), List.getElem?_append_left hi], fun i o' ho => ?_⟩
    cases i with
    | zero =>
      simp at ho
      subst ho
      rw [Nat.add_zero, h2 acc.length (by simp)]
      have : (ancs l (acc ++ [ancOf o acc])).take acc.length = acc := by
        apply List.ext_getElem?
        intro i
        rw [List.getElem?_take]
        split
        · rw [h2 i (by simp; omega), List.getElem?_append_left ‹_›]
        · rw [List.getElem?_eq_none (by omega)]
      rw [this]
      simp
    | succ i =>
      have := h3 i o' (by simpa using ho)
      have e2 : (acc ++ [ancOf o acc]).length + i = acc.length + (i + 1) := by simp; omega
      rw [e2] at this
      exact this

/-- What the plan's check says. -/
structure PlanP (P : Program) (all : List Oper) : Prop where
  back : ∀ (i : Nat) (o : Oper) (e : Edge), all[i]? = some o → e ∈ o.after.toList → Region.binds .any e = true → e.on < i
  uniq : ∀ (i j : Nat) (o o' : Oper) (d : Nat), all[i]? = some o → all[j]? = some o' → o.dst = some d → o'.dst = some d → i = j
  uses : ∀ (i j : Nat) (o o' : Oper) (u : Nat), all[i]? = some o → all[j]? = some o' → Operand.tmp u ∈ asked all o → o'.dst = some u → Nat.testBit (Aof all i) j = true ∨ Nat.testBit (Aof all j) i = true
  guard : ∀ (i : Nat) (o : Oper) (g : Nat) (w : Bool), all[i]? = some o → o.guard = some (g, w) → (dstOf all g).isSome = true
  effs : ∀ (i j : Nat) (o o' : Oper), all[i]? = some o → all[j]? = some o' → j < i → isEff (cls P o.op) = true → isEff (cls P o'.op) = true → Nat.testBit (Aof all i) j = true ∨
    (isSt (cls P o.op) = true ∧ isSt (cls P o'.op) = true ∧ ∀ k q, all[k]? = some q → k = i ∨ k = j ∨ isPure (cls P q.op) = true ∨ (Nat.testBit (Aof all i) k = true ∧ Nat.testBit (Aof all j) k = true))

theorem bitAt_eq (l : List Nat) (i j : Nat) : bitAt l i j = Nat.testBit ((nth l i).getD 0) j := by
  unfold bitAt
  cases nth l i <;> simp
theorem at_eq {all : List Oper} {i : Nat} {o : Oper} (h : all[i]? = some o) : (nth all i).getD default = o := by rw [nth_eq, h]; rfl
theorem planOk_spec {all : List Oper} (h : planOk P all = true) : PlanP P all := by
  unfold planOk at h
  simp only [Bool.and_eq_true, List.all_eq_true, List.mem_range] at h
  obtain ⟨⟨⟨⟨h1, h2⟩, h3⟩, h4⟩, h5⟩ := h
  have lt : ∀ {i o}, all[i]? = some o → i < all.length := fun h => (List.getElem?_eq_some_iff.1 h).1
  refine ⟨?_, ?_, ?_, ?_, ?_⟩
  · intro i o e ho he hb
    have := h1 i (lt ho) e (by rw [at_eq ho]; exact he)
    rw [hb] at this
    simpa [Nat.blt_eq] using this
  · intro i j o o' d ho ho' hd hd'
    have := h2 i (lt ho)
    rw [at_eq ho, hd] at this
    simp only [List.all_eq_true, List.mem_range] at this
    have := this j (lt ho')
    rw [at_eq ho', hd'] at this
    simpa using this
  · intro i j o o' u ho ho' hu hd
    have hmem : u ∈ usesOf all o := by
      unfold asked at hu
      unfold usesOf
      rw [List.mem_append] at hu ⊢
      rcases hu with hu | hu
      · exact .inl (List.mem_filterMap.2 ⟨.tmp u, hu, rfl⟩)
      · refine .inr ?_
        cases hg : o.guard with
        | none => rw [hg] at hu; simp at hu
        | some gw =>
          rw [hg] at hu
          simp only [List.mem_map] at hu ⊢
          obtain ⟨x, hx, he⟩ := hu
          cases he
          exact hx
    have := h3 i (lt ho) u (by rw [at_eq ho]; exact hmem) j (lt ho')
    rw [at_eq ho', hd, bitAt_eq, bitAt_eq] at this
    simpa [Aof] using this
  · intro i o g w ho hg
    have := h4 i (lt ho)
    rw [at_eq ho, hg] at this
    simp only [Bool.and_eq_true] at this
    obtain ⟨p, hp⟩ := isO_some this.2
    rw [hp]; rfl
  · intro i j o o' ho ho' hlt he he'
    have := h5 i (lt ho) j (lt ho')
    rw [at_eq ho, at_eq ho'] at this
    have hb : Nat.blt j i = true := by simpa [Nat.blt_eq] using hlt
    rw [he, he', hb] at this
    simp only [Bool.and_true, Bool.not_true, Bool.false_or, Bool.or_eq_true, Bool.and_eq_true, List.all_eq_true, List.mem_range] at this
    rcases this with this | ⟨⟨k1, k2⟩, k3⟩
    · rw [bitAt_eq] at this; exact .inl this
    · refine .inr ⟨k1, k2, fun k q hq => ?_⟩
      have := k3 k (lt hq)
      rw [at_eq hq, bitAt_eq, bitAt_eq] at this
      simp only [Bool.or_eq_true, Bool.and_eq_true, Nat.beq_eq] at this
      rcases this with ((h | h) | h) | h
      · exact .inl h
      · exact .inr (.inl h)
      · exact .inr (.inr (.inl h))
      · exact .inr (.inr (.inr h))

section
variable {all : List Oper} (hp : PlanP P all)
include hp
theorem PlanP.bit {j : Nat} {o : Oper} (ho : all[j]? = some o) (k : Nat) : Nat.testBit (Aof all j) k = true ↔ ∃ e ∈ o.after.toList, Region.binds .any e = true ∧ (e.on = k ∨ Nat.testBit (Aof all e.on) k = true) := by
  obtain ⟨h1, _, h3⟩ := ancs_spec all []
  have hj := h3 j o ho
  simp only [List.length_nil, Nat.zero_add] at hj
  have e : Aof all j = ancOf o ((ancs all []).take j) := by unfold Aof; rw [nth_eq, hj]; rfl
  rw [e, ancOf_bit, List.any_eq_true]
  have key : ∀ e ∈ o.after.toList, Region.binds .any e = true → (match nth ((ancs all []).take j) e.on with | some m => Nat.testBit m k | none => false) = Nat.testBit (Aof all e.on) k := by
    intro e he hb
    have := hp.back j o e ho he hb
    unfold Aof
    rw [nth_eq, nth_eq, List.getElem?_take, if_pos this]
    cases (ancs all [])[e.on]? <;> simp
  constructor
  · rintro ⟨e, he, hb⟩
    simp only [Bool.and_eq_true, Bool.or_eq_true, beq_iff_eq] at hb
    obtain ⟨hb, hk⟩ := hb
    rw [key e he hb] at hk
    exact ⟨e, he, hb, hk⟩
  · rintro ⟨e, he, hb, hk⟩
    refine ⟨e, he, ?_⟩
    simp only [Bool.and_eq_true, Bool.or_eq_true, beq_iff_eq]
    rw [key e he hb]
    exact ⟨hb, hk⟩
theorem PlanP.lt : ∀ (j : Nat) {k : Nat}, Nat.testBit (Aof all j) k = true → k < j := by
  intro j
  induction j using Nat.strongRecOn with
  | ind j ih =>
    intro k h
    cases ho : all[j]? with
    | none =>
      obtain ⟨h1, _, _⟩ := ancs_spec all []
      have : Aof all j = 0 := by
        unfold Aof
        rw [nth_eq, List.getElem?_eq_none (by rw [h1]; simpa using List.getElem?_eq_none_iff.1 ho)]
        rfl
      rw [this] at h
      simp at h
    | some o =>
      obtain ⟨e, he, hb, hk⟩ := (hp.bit ho k).1 h
      have hlt := hp.back j o e ho he hb
      rcases hk with rfl | hk
      · exact hlt
      · exact Nat.lt_trans (ih _ hlt hk) hlt
end

/-! What is laid, what floats. -/
theorem lay_next (anc : Nat) (l : List Pd) (h : Hp) : (lay anc l h).next = h.next := by
  induction l with
  | nil => rfl
  | cons p l ih =>
    show (Bool.rec (lay anc l h) ((lay anc l h).put p.r p.o) (Nat.testBit anc p.i) : Hp).next = _
    cases Nat.testBit anc p.i <;> exact ih
theorem lay_cons (anc : Nat) (p : Pd) (l : List Pd) (h : Hp) (r : Id) : (lay anc (p :: l) h).get r = if Nat.testBit anc p.i = true ∧ r = p.r then some p.o else (lay anc l h).get r := by
  show (Bool.rec (lay anc l h) ((lay anc l h).put p.r p.o) (Nat.testBit anc p.i) : Hp).get r = _
  cases Nat.testBit anc p.i with
  | false => simp
  | true =>
    show ((lay anc l h).put p.r p.o).get r = _
    rw [Hp.get_put]
    simp [upd]
theorem lay_none {anc : Nat} {h : Hp} {r : Id} : ∀ {l : List Pd}, (∀ p ∈ l, Nat.testBit anc p.i = true → p.r ≠ r) → (lay anc l h).get r = h.get r
  | [], _ => rfl
  | p :: l, H => by
    rw [lay_cons, if_neg, lay_none fun q hq => H q (by simp [hq])]
    rintro ⟨h1, h2⟩
    exact H p (by simp) h1 h2.symm
theorem lay_some {anc : Nat} {h : Hp} {r : Id} : ∀ {l : List Pd}, (∃ p ∈ l, Nat.testBit anc p.i = true ∧ p.r = r) → ∃ p ∈ l, Nat.testBit anc p.i = true ∧ p.r = r ∧ (lay anc l h).get r = some p.o
  | [], ⟨p, hp, _⟩ => by simp at hp
  | p :: l, ⟨q, hq, h1, h2⟩ => by
    rw [lay_cons]
    by_cases hc : Nat.testBit anc p.i = true ∧ r = p.r
    · rw [if_pos hc]
      exact ⟨p, by simp, hc.1, hc.2.symm, rfl⟩
    · rw [if_neg hc]
      rcases List.mem_cons.1 hq with rfl | hq
      · exact (hc ⟨h1, h2.symm⟩).elim
      · obtain ⟨p', hp', k⟩ := lay_some (h := h) ⟨q, hq, h1, h2⟩
        exact ⟨p', by simp [hp'], k⟩
theorem layAll_next (l : List Pd) (h : Hp) : (layAll l h).next = h.next := by
  induction l with
  | nil => rfl
  | cons p l ih => exact ih
theorem layAll_cons (p : Pd) (l : List Pd) (h : Hp) (r : Id) : (layAll (p :: l) h).get r = if r = p.r then some p.o else (layAll l h).get r := by
  show ((layAll l h).put p.r p.o).get r = _
  rw [Hp.get_put]
  simp [upd]
theorem layAll_none {h : Hp} {r : Id} : ∀ {l : List Pd}, (∀ p ∈ l, p.r ≠ r) → (layAll l h).get r = h.get r
  | [], _ => rfl
  | p :: l, H => by
    rw [layAll_cons, if_neg (fun e => H p (by simp) e.symm), layAll_none fun q hq => H q (by simp [hq])]
theorem layAll_some {h : Hp} {r : Id} : ∀ {l : List Pd}, (∃ p ∈ l, p.r = r) → ∃ p ∈ l, p.r = r ∧ (layAll l h).get r = some p.o
  | [], ⟨p, hp, _⟩ => by simp at hp
  | p :: l, ⟨q, hq, h2⟩ => by
    rw [layAll_cons]
    by_cases hc : r = p.r
    · rw [if_pos hc]
      exact ⟨p, by simp, hc.symm, rfl⟩
    · rw [if_neg hc]
      rcases List.mem_cons.1 hq with rfl | hq
      · exact (hc h2.symm).elim
      · obtain ⟨p', hp', k⟩ := layAll_some (h := h) ⟨q, hq, h2⟩
        exact ⟨p', by simp [hp'], k⟩
theorem mem_unlaid {anc : Nat} {p : Pd} : ∀ {l : List Pd}, p ∈ unlaid anc l ↔ p ∈ l ∧ Nat.testBit anc p.i = false
  | [] => by simp [unlaid]
  | q :: l => by
    have e : unlaid anc (q :: l) = Bool.rec (q :: unlaid anc l) (unlaid anc l) (Nat.testBit anc q.i) := rfl
    rw [e]
    cases hq : Nat.testBit anc q.i with
    | false =>
      show p ∈ q :: unlaid anc l ↔ _
      rw [List.mem_cons, mem_unlaid, List.mem_cons]
      constructor
      · rintro (rfl | ⟨h1, h2⟩)
        · exact ⟨.inl rfl, hq⟩
        · exact ⟨.inr h1, h2⟩
      · rintro ⟨rfl | h1, h2⟩
        · exact .inl rfl
        · exact .inr ⟨h1, h2⟩
    | true =>
      show p ∈ unlaid anc l ↔ _
      rw [mem_unlaid, List.mem_cons]
      constructor
      · rintro ⟨h1, h2⟩; exact ⟨.inr h1, h2⟩
      · rintro ⟨rfl | h1, h2⟩
        · rw [hq] at h2; cases h2
        · exact ⟨h1, h2⟩
theorem optEq_av {x : Option AV} {v : AV} (h : optEq avBeq x (some v) = true) : x = some v := optEq_iff (fun _ _ => avBeq_eq) h
theorem seenOn_spec {anc : Nat} {pd : List Pd} {h : Hp} : ∀ {l : List Rx}, seenOn anc pd h l = true → ∀ x ∈ l, Nat.testBit anc x.i = false → x.f (lay x.anc pd h) = some x.v
  | [], _, x, hx, _ => by simp at hx
  | y :: l, hs, x, hx, hb => by
    have hs : (Bool.rec (Bool.rec false (seenOn anc pd h l) (optEq avBeq (y.f (lay y.anc pd h)) (some y.v))) (seenOn anc pd h l) (Nat.testBit anc y.i) : Bool) = true := hs
    cases hy : Nat.testBit anc y.i with
    | true =>
      rw [hy] at hs
      rcases List.mem_cons.1 hx with rfl | hx
      · rw [hy] at hb; cases hb
      · exact seenOn_spec hs x hx hb
    | false =>
      rw [hy] at hs
      cases ho : optEq avBeq (y.f (lay y.anc pd h)) (some y.v) with
      | false => simp only [ho] at hs; cases hs
      | true =>
        simp only [ho] at hs
        rcases List.mem_cons.1 hx with rfl | hx
        · exact optEq_av ho
        · exact seenOn_spec hs x hx hb
theorem seenBack_spec {anc : Nat} {f : Hp → Option AV} {v : AV} : ∀ {l : List Hx}, seenBack anc f v l = true → ∀ x ∈ l, Nat.testBit anc x.i = false → f (lay anc x.pd x.hb) = some v
  | [], _, x, hx, _ => by simp at hx
  | y :: l, hs, x, hx, hb => by
    have hs : (Bool.rec (Bool.rec false (seenBack anc f v l) (optEq avBeq (f (lay anc y.pd y.hb)) (some v))) (seenBack anc f v l) (Nat.testBit anc y.i) : Bool) = true := hs
    cases hy : Nat.testBit anc y.i with
    | true =>
      rw [hy] at hs
      rcases List.mem_cons.1 hx with rfl | hx
      · rw [hy] at hb; cases hb
      · exact seenBack_spec hs x hx hb
    | false =>
      rw [hy] at hs
      cases ho : optEq avBeq (f (lay anc y.pd y.hb)) (some v) with
      | false => simp only [ho] at hs; cases hs
      | true =>
        simp only [ho] at hs
        rcases List.mem_cons.1 hx with rfl | hx
        · exact optEq_av ho
        · exact seenBack_spec hs x hx hb

/-! The trace. -/
/-- The states ahead of each operation, what each told, what each did. -/
structure Tc (P : Program) (val : Nat → Value) (ops : Array Oper) (m : Nat) (t0 : T) (h0 : Hp) (st : Nat → DS) (tv : Nat → AV) (dd : Nat → Did) : Prop where
  init : st 0 = ⟨[], t0, ⟨h0.o, incN (nwCount P ops.toList) h0.next⟩, h0.next, [], [], []⟩
  step : ∀ j o, ops.toList[j]? = some o → st (j + 1) = nxS (isNw (cls P o.op)) (upS (cKp m o.dst) j (Aof ops.toList j) (tv j) (dd j) (st j)) ∧ Fits P j (Aof ops.toList j) o (st j) (tv j) (dd j) ∧
    (((∀ ρ a, OpV P val ρ m (prevAt ops.toList j) ops.toList o (st j) a → Region.wanted o (yielded ops a.tmps) = true) ∧ Tell P val m (prevAt ops.toList j) ops.toList o (st j) (tv j) (dd j)) ∨
     ((∀ ρ a, OpV P val ρ m (prevAt ops.toList j) ops.toList o (st j) a → Region.wanted o (yielded ops a.tmps) = false) ∧ dd j = .quiet ∧ tv j = .tup []))
  plan : PlanP P ops.toList

theorem trace_spec {env : Env} (hE : Ok P val env) {ops : Array Oper} {m : Nat} {t0 : T} {h0 : Hp} {S : S} (hp : planOk P ops.toList = true) (hr : runDrw (nwCount P ops.toList) (cD P m ops.toList (ancs ops.toList []) ops.toList [] 0) env t0 h0 = some S) :
    ∃ st tv dd, Tc P val ops m t0 h0 st tv dd ∧ S = ⟨(st ops.size).loc, (st ops.size).t, layAll (st ops.size).pend (st ops.size).h⟩ := by
  have hP := planOk_spec hp
  obtain ⟨s', hs, hr⟩ := orec_some hr
  cases hr
  obtain ⟨st, e0, en, hst⟩ := trace_of hs
  rw [cD_len] at en
  have hstep : ∀ j, ∃ vd : AV × Did, ∀ o, ops.toList[j]? = some o → Step P val m ops j (Aof ops.toList j) (prevAt ops.toList j) o (st j) vd.1 vd.2 (upS (cKp m o.dst) j (Aof ops.toList j) vd.1 vd.2 (st j)) ∧ st (j + 1) = nxS (isNw (cls P o.op)) (upS (cKp m o.dst) j (Aof ops.toList j) vd.1 vd.2 (st j)) := by
    intro j
    cases ho : ops.toList[j]? with
    | none => exact ⟨(default, .quiet), fun o h => by cases h⟩
    | some o =>
      have hc := cD_get P m ops.toList (ancs ops.toList []) ops.toList 0 rfl j o ho
      simp only [Nat.zero_add] at hc
      obtain ⟨s1, h1, h2⟩ := hst j _ hc
      obtain ⟨v, d, hS⟩ := stepD_spec hE (fun g w hg => hP.guard j o g w ho hg) h1
      refine ⟨(v, d), fun o' h => ?_⟩
      cases h
      have := hS.eq
      subst this
      exact ⟨hS, h2⟩
  obtain ⟨vd, hvd⟩ := Classical.axiomOfChoice hstep
  refine ⟨st, fun j => (vd j).1, fun j => (vd j).2, ⟨?_, fun j o ho => ?_, hP⟩, ?_⟩
  · rw [e0]
  · obtain ⟨h1, h2⟩ := hvd j o ho
    exact ⟨h2, h1.fits, h1.run⟩
  · have : ops.toList.length = ops.size := by simp
    rw [← this, en]
end Go.Ev
