/- Operations of two operands. -/
import Derived.Test.YtgchblfkmgnaeaaGreatDoorEvD
import Derived.Laws.Strings
import Derived.Laws.StructEq
import Derived.Laws.Pointers
set_option linter.unusedVariables false
set_option linter.unusedSimpArgs false
set_option linter.unusedSectionVars false
namespace Go.Ev

variable {P : Program} {val : Nat → Value} {ρ : Rho}

theorem eqPlain {x y : AV} {b : Bool} (h : plainEq x y = some b) :
    (∃ k m n, x = .int k m ∧ y = .int k n ∧ b = (m == n)) ∨ (∃ n l m k, x = .str n l ∧ y = .str m k ∧ b = sEq n l m k) ∨ (∃ c d, x = .bool c ∧ y = .bool d ∧ b = (c == d)) := by
  unfold plainEq at h
  rcases orec_or h with ⟨_, h⟩ | ⟨p, hp, h⟩
  · rcases orec_or h with ⟨_, h⟩ | ⟨p, hp, h⟩
    · obtain ⟨c, hc, h⟩ := orec_some h
      obtain ⟨d, hd, h⟩ := orec_some h
      rw [asBool_some] at hc hd
      refine .inr (.inr ⟨c, d, hc, hd, ?_⟩)
      cases h
      cases c <;> cases d <;> rfl
    · obtain ⟨q, hq, h⟩ := orec_some h
      rw [asStr_some] at hp hq
      cases h
      exact .inr (.inl ⟨_, _, _, _, hp, hq, rfl⟩)
  · obtain ⟨q, hq, h⟩ := orec_some h
    obtain ⟨hk, h⟩ := brec_true h
    rw [asInt_some] at hp hq
    rw [kEq_iff] at hk
    cases h
    exact .inl ⟨p.1, p.2, q.2, hp, by rw [hq, hk], iEq_eq _ _⟩

theorem bytes_beq (s s' : ByteArray) : (s == s') = sEq (enc s.data.toList) s.data.toList.length (enc s'.data.toList) s'.data.toList.length := by
  have h : (s == s') = (s.data == s'.data) := by cases s; cases s'; rfl
  rw [h, Bool.eq_iff_iff, sEq_iff, beq_iff_eq]
  constructor
  · intro h; rw [h]
  · intro h; exact Array.toList_inj.1 h

/-- Two plain values that are held against each other: what the model's '==' at a type of their kind tells. -/
theorem plain_equalIn {t : TypeId} {k : Nat} {x y : AV} {u v : Value} {b : Bool} {d : Nat} (ht : plain? P t = some k) (hk : kindOk k x = true) (h : plainEq x y = some b) (hx : V val ρ x u) (hy : V val ρ y v) (w : World) :
    (Op.equalIn (d + 1) t u v).run P w = .ok b w := by
  have kx : (k = 0 ∧ ∃ p, asInt x = some p) ∨ (k = 1 ∧ ∃ p, asStr x = some p) ∨ (1 < k ∧ ∃ p, asBool x = some p) := by
    have iso : ∀ {α : Type} {z : Option α}, isO z = true → ∃ p, z = some p := by
      intro α z hz
      cases z with
      | none => cases hz
      | some p => exact ⟨p, rfl⟩
    match k, hk with
    | 0, hk => exact .inl ⟨rfl, iso hk⟩
    | 1, hk => exact .inr (.inl ⟨rfl, iso hk⟩)
    | k + 2, hk => exact .inr (.inr ⟨by omega, iso hk⟩)
  have hu : (k = 0 ∧ ∃ j, P.underlying t = some (.int j)) ∨ (k = 1 ∧ P.underlying t = some .string) ∨ (k = 2 ∧ P.underlying t = some .bool) := by
    unfold plain? at ht
    split at ht <;> simp at ht
    · exact .inl ⟨ht.symm, _, ‹_›⟩
    · exact .inr (.inl ⟨ht.symm, ‹_›⟩)
    · exact .inr (.inr ⟨ht.symm, ‹_›⟩)
  rcases eqPlain h with ⟨j, m, n, rfl, rfl, rfl⟩ | ⟨n, l, m, j, rfl, rfl, rfl⟩ | ⟨c, c', rfl, rfl, rfl⟩
  · rw [V_int] at hx hy
    subst hx hy
    rcases kx with ⟨rfl, _⟩ | ⟨_, p, hp⟩ | ⟨_, p, hp⟩
    · rcases hu with ⟨_, j', hu⟩ | ⟨h0, _⟩ | ⟨h0, _⟩
      · unfold Op.equalIn; simp [und_run hu]
      · cases h0
      · cases h0
    · cases asStr_some.1 hp
    · cases asBool_some.1 hp
  · obtain ⟨s, rfl, h1, h2⟩ := V_str.1 hx
    obtain ⟨s', rfl, h3, h4⟩ := V_str.1 hy
    subst h1 h2 h3 h4
    rcases kx with ⟨_, p, hp⟩ | ⟨rfl, _⟩ | ⟨_, p, hp⟩
    · cases asInt_some.1 hp
    · rcases hu with ⟨h0, _⟩ | ⟨_, hu⟩ | ⟨h0, _⟩
      · cases h0
      · have hb : (s == s') = sEq (enc s.data.toList) s.data.toList.length (enc s'.data.toList) s'.data.toList.length := by
          exact bytes_beq s s'
        unfold Op.equalIn
        simp [und_run hu, hb]
      · cases h0
    · cases asBool_some.1 hp
  · rw [V_bool] at hx hy
    subst hx hy
    rcases kx with ⟨_, p, hp⟩ | ⟨_, p, hp⟩ | ⟨hk1, _⟩
    · cases asInt_some.1 hp
    · cases asStr_some.1 hp
    · rcases hu with ⟨h0, _⟩ | ⟨h0, _⟩ | ⟨_, hu⟩
      · omega
      · omega
      · unfold Op.equalIn; simp [und_run hu]

theorem isO_some {α : Type} {z : Option α} (hz : isO z = true) : ∃ p, z = some p := by
  cases z with
  | none => cases hz
  | some p => exact ⟨p, rfl⟩
theorem kindsOk_cons {k : Nat} {ks : List Nat} {l : List AV} (h : kindsOk (k :: ks) l = true) : ∃ a r, l = a :: r ∧ kindOk k a = true ∧ kindsOk ks r = true := by
  cases l with
  | nil => cases h
  | cons a r =>
    have e : kindsOk (k :: ks) (a :: r) = Bool.rec false (kindsOk ks r) (kindOk k a) := rfl
    rw [e] at h
    cases hk : kindOk k a with
    | false => simp [hk] at h
    | true => simp [hk] at h; exact ⟨a, r, rfl, hk, h⟩
theorem kindsOk_nil {l : List AV} (h : kindsOk [] l = true) : l = [] := by
  cases l with
  | nil => rfl
  | cons a r => cases h
theorem aggEq_cons {a : AV} {l m : List AV} {b : Bool} (h : aggEq (a :: l) m = some b) : ∃ a' m' c d, m = a' :: m' ∧ plainEq a a' = some c ∧ aggEq l m' = some d ∧ b = (c && d) := by
  cases m with
  | nil => cases h
  | cons a' m' =>
    have e : aggEq (a :: l) (a' :: m') = Option.rec none (fun c => Option.rec none (fun d => some (Bool.rec false d c)) (aggEq l m')) (plainEq a a') := rfl
    rw [e] at h
    obtain ⟨c, hc, h⟩ := orec_some h
    obtain ⟨d, hd, h⟩ := orec_some h
    cases h
    exact ⟨a', m', c, d, rfl, hc, hd, by cases c <;> rfl⟩
theorem aggEq_nil {m : List AV} {b : Bool} (h : aggEq [] m = some b) : m = [] ∧ b = true := by
  cases m with
  | nil => cases h; exact ⟨rfl, rfl⟩
  | cons a r => cases h
theorem plain_agg {t : TypeId} {k : Nat} (h : plain? P t = some k) : isAgg? P t = some false := by
  unfold plain? at h
  unfold isAgg?
  split at h <;> simp at h <;> simp [*]

theorem flatFs_run (d : Nat) (w : World) : ∀ (fs : List Field) (i : Nat) (ks : List Nat) (xs ys : List AV) (us vs : Array Value) (b : Bool),
    flatFs P fs i = some ks → kindsOk ks xs = true → aggEq xs ys = some b →
    Vs val ρ xs (us.toList.drop i) → Vs val ρ ys (vs.toList.drop i) → (Op.eqFields (d + 1) us vs fs).run P w = .ok b w
  | [], i, ks, xs, ys, us, vs, b, hf, hk, h, hx, hy => by
    cases hf
    rw [kindsOk_nil hk] at h
    obtain ⟨_, rfl⟩ := aggEq_nil h
    rfl
  | f :: fs, i, ks, xs, ys, us, vs, b, hf, hk, h, hx, hy => by
    simp only [flatFs] at hf
    split at hf
    · rename_i k r hp hr
      cases hc : (Nat.beq f.offset i && !(f.name == "_")) with
      | false => simp [hc] at hf
      | true =>
        simp [hc] at hf
        subst hf
        simp only [Bool.and_eq_true, Bool.not_eq_true', beq_eq_false_iff_ne] at hc
        obtain ⟨ho, hn⟩ := hc
        have ho := Nat.eq_of_beq_eq_true ho
        obtain ⟨a, l, rfl, hka, hkl⟩ := kindsOk_cons hk
        obtain ⟨a', m', c, e, rfl, hc, he, rfl⟩ := aggEq_cons h
        obtain ⟨u, ur, hu, hV, hVs⟩ := Vs_cons_iff.1 hx
        obtain ⟨v, vr, hv, hV', hVs'⟩ := Vs_cons_iff.1 hy
        have g1 : us[i]? = some u := by
          have : (us.toList.drop i)[0]? = some u := by rw [hu]; rfl
          simpa using this
        have g2 : vs[i]? = some v := by
          have : (vs.toList.drop i)[0]? = some v := by rw [hv]; rfl
          simpa using this
        have d1 : us.toList.drop (i + 1) = ur := by rw [← List.drop_drop, hu]; rfl
        have d2 : vs.toList.drop (i + 1) = vr := by rw [← List.drop_drop, hv]; rfl
        have ih := flatFs_run d w fs (i + 1) r l m' us vs e hr hkl he (by rw [d1]; exact hVs) (by rw [d2]; exact hVs')
        have p1 : (part f.type us f.offset).run P w = .ok u w := by unfold part; simp [agg_run (plain_agg hp), ho, g1]
        have p2 : (part f.type vs f.offset).run P w = .ok v w := by unfold part; simp [agg_run (plain_agg hp), ho, g2]
        have p3 := plain_equalIn (d := d) hp hka hc hV hV' w
        simp only [Op.eqFields, hn, ne_eq, not_false_eq_true, if_true, Sem.run_bind, p1, p2, p3, Result.andThen_ok, Sem.run_ite]
        cases c <;> simp [ih]
    · cases hf

theorem fieldsOf_eq {t : TypeId} {fs : Array Field} (h : P.underlying t = some (.struct fs)) : P.fieldsOf t = fs := by simp [Program.fieldsOf, h]

theorem arr_run {e : TypeId} {k : Nat} (hp : plain? P e = some k) (d : Nat) (us vs : Array Value) (w : World) : ∀ (n i : Nat) (xs ys : List AV) (b : Bool),
    kindsOk (List.replicate n k) xs = true → aggEq xs ys = some b → Vs val ρ xs (us.toList.drop i) → Vs val ρ ys (vs.toList.drop i) →
    ((forIn (List.range' i n) ((none, ()) : Option Bool × Unit) fun i (_ : Option Bool × Unit) => (do
      let a ← part e us (i * 1)
      let b ← part e vs (i * 1)
      let r ← Op.equalIn (d + 1) e a b
      if (!r) = true then pure (.done (some false, ())) else pure (.yield (none, ())) : Sem (ForInStep (Option Bool × Unit)))) : Sem (Option Bool × Unit)).run P w =
      .ok (if b then none else some false, ()) w
  | 0, i, xs, ys, b, hk, h, hx, hy => by
    rw [kindsOk_nil hk] at h
    obtain ⟨_, rfl⟩ := aggEq_nil h
    simp
  | n + 1, i, xs, ys, b, hk, h, hx, hy => by
    rw [List.replicate_succ] at hk
    obtain ⟨a, l, rfl, hka, hkl⟩ := kindsOk_cons hk
    obtain ⟨a', m', c, e', rfl, hc, he, rfl⟩ := aggEq_cons h
    obtain ⟨u, ur, hu, hV, hVs⟩ := Vs_cons_iff.1 hx
    obtain ⟨v, vr, hv, hV', hVs'⟩ := Vs_cons_iff.1 hy
    have g1 : us[i]? = some u := by
      have : (us.toList.drop i)[0]? = some u := by rw [hu]; rfl
      simpa using this
    have g2 : vs[i]? = some v := by
      have : (vs.toList.drop i)[0]? = some v := by rw [hv]; rfl
      simpa using this
    have d1 : us.toList.drop (i + 1) = ur := by rw [← List.drop_drop, hu]; rfl
    have d2 : vs.toList.drop (i + 1) = vr := by rw [← List.drop_drop, hv]; rfl
    have ih := arr_run hp d us vs w n (i + 1) l m' e' hkl he (by rw [d1]; exact hVs) (by rw [d2]; exact hVs')
    have p1 : (part e us (i * 1)).run P w = .ok u w := by unfold part; simp [agg_run (plain_agg hp), g1]
    have p2 : (part e vs (i * 1)).run P w = .ok v w := by unfold part; simp [agg_run (plain_agg hp), g2]
    have p3 := plain_equalIn (d := d) hp hka hc hV hV' w
    rw [List.range'_succ]
    simp only [List.forIn_cons, Sem.run_bind, p1, p2, p3, Result.andThen_ok, Sem.run_ite]
    cases c
    · simp
    · simpa using ih

/-- Aggregates of plain cells. -/
theorem flat_run {t : TypeId} {ks : List Nat} {xs ys : List AV} {us vs : Array Value} {b : Bool} (d : Nat) (ht : flat? P t = some ks) (hk : kindsOk ks xs = true) (h : aggEq xs ys = some b)
    (hx : Vs val ρ xs us.toList) (hy : Vs val ρ ys vs.toList) (w : World) :
    P.eqGuardType P.depth t = false ∧ (Op.equalIn (d + 2) t (.agg us) (.agg vs)).run P w = .ok b w := by
  unfold flat? at ht
  split at ht
  · rename_i fs hu
    cases hc : (P.eqGuardType P.depth t || P.stoodInHeld t) with
    | true => simp [hc] at ht
    | false =>
      simp only [Bool.or_eq_false_iff] at hc
      simp [hc.1, hc.2] at ht
      refine ⟨hc.1, ?_⟩
      have hfs := fieldsOf_eq hu
      rw [run_equalIn_struct w (d + 1) t us vs (by rw [hfs]; exact hu) hc.2, hfs]
      exact flatFs_run d w fs.toList 0 ks xs ys us vs b ht hk h (by simpa using hx) (by simpa using hy)
  · rename_i n e hu
    cases hc : P.eqGuardType P.depth t with
    | true => simp [hc] at ht
    | false =>
      simp [hc] at ht
      split at ht
      · rename_i k hp hs
        cases ht
        refine ⟨rfl, ?_⟩
        have := arr_run (val := val) (ρ := ρ) hp d us vs w n 0 xs ys b hk h (by simpa using hx) (by simpa using hy)
        unfold Op.equalIn
        simp only [Sem.run_bind, und_run hu, Result.andThen_ok, sz_run hs, Std.Legacy.Range.forIn_eq_forIn_range', Std.Legacy.Range.size, Nat.sub_zero, Nat.add_sub_cancel, Nat.div_one]
        refine Eq.trans (congrArg (fun r => Result.andThen r _) this) ?_
        cases b <;> simp
      · cases ht
  · cases ht
end Go.Ev
