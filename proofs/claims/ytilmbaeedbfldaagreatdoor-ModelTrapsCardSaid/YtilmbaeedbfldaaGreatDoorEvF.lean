/- Equality; operations of two operands. -/
import Derived.Test.YtilmbaeedbfldaaGreatDoorEvE
set_option linter.unusedVariables false
set_option linter.unusedSimpArgs false
set_option linter.unusedSectionVars false
namespace Go.Ev

variable {P : Program} {val : Nat → Value} {ρ : Rho}

theorem isO_ex {α : Type} {f : AV → Option α} {x : AV} (h : (fun x => isO (f x)) x = true) : ∃ p, f x = some p := isO_some h

theorem eqNil_some {k : Nat} {c : Bool} {is : AV → Bool} {x y : AV} {b : Bool} (h : eqNil k c is x y = some b) :
    (x = .nul k ∧ y = .nul k ∧ c = true ∧ b = true) ∨ (x = .nul k ∧ is y = true ∧ b = false) ∨ (is x = true ∧ y = .nul k ∧ b = false) := by
  unfold eqNil at h
  rcases orec_or h with ⟨_, h⟩ | ⟨u, hu, h⟩
  · obtain ⟨h1, h⟩ := brec_true h
    obtain ⟨u, hu, h⟩ := orec_some h
    cases h
    exact .inr (.inr ⟨h1, nulIs_some hu, rfl⟩)
  · have hx := nulIs_some hu
    rcases orec_or h with ⟨_, h⟩ | ⟨v, hv, h⟩
    · obtain ⟨h1, h⟩ := brec_true h
      cases h
      exact .inr (.inl ⟨hx, h1, rfl⟩)
    · obtain ⟨h1, h⟩ := brec_true h
      cases h
      exact .inl ⟨hx, nulIs_some hv, h1, rfl⟩

/-- '==' at a type, told by its kind: the guard says nothing, and the law of equality tells b. -/
def EqOk (P : Program) (t : TypeId) (x y : Operand) (u v : Value) (b : Bool) (w : World) : Prop :=
  (eqGuard .eql t x y u v).run P w = .ok () w ∧ (eqGuard .neq t x y u v).run P w = .ok () w ∧ (binOp .eql t u v).run P w = .ok (.bool b) w ∧ (binOp .neq t u v).run P w = .ok (.bool (!b)) w

theorem EqOk.mk' {t : TypeId} {x y : Operand} {u v : Value} {b : Bool} {w : World} (h1 : eqGuard .eql t x y u v = pure ()) (h2 : eqGuard .neq t x y u v = pure ())
    (h3 : binOp .eql t u v = (do pure (.bool (← Op.equalIn (9999 + 1) t u v)))) (h4 : binOp .neq t u v = (do pure (.bool (!(← Op.equalIn (9999 + 1) t u v)))))
    (h5 : (Op.equalIn (9999 + 1) t u v).run P w = .ok b w) : EqOk P t x y u v b w := by
  refine ⟨by rw [h1]; rfl, by rw [h2]; rfl, ?_, ?_⟩
  · rw [h3]; simp [h5]
  · rw [h4]; simp [h5]

theorem eqAt_sound {t : TypeId} {x y : Operand} {e : EqT} {a b : AV} {u v : Value} {r : Bool} (ht : eqT? P t x y = some e) (h : eqAt e a b = some r) (hx : V val ρ a u) (hy : V val ρ b v)
    (cx : ∀ c, x = .const c → u = c) (w : World) : EqOk P t x y u v r w := by
  have num : eqNum a b = some r → EqOk P t x y u v r w := by
    intro h
    rcases orec_or h with ⟨_, h⟩ | ⟨p, hp, h⟩
    · obtain ⟨p, hp, h⟩ := orec_some h
      obtain ⟨q, hq, h⟩ := orec_some h
      rw [asStr_some] at hp hq
      subst hp hq
      cases h
      obtain ⟨s, rfl, h1, h2⟩ := V_str.1 hx
      obtain ⟨s', rfl, h3, h4⟩ := V_str.1 hy
      have hb : (s.toList == s'.toList) = sEq p.1 p.2 q.1 q.2 := by
        rw [← h1, ← h2, ← h3, ← h4, ByteArray.toList_eq, ByteArray.toList_eq, Bool.eq_iff_iff, sEq_iff, beq_iff_eq]
      refine ⟨rfl, rfl, ?_, ?_⟩
      · rw [binOp_string_eql, hb]; rfl
      · rw [binOp_string_neq, hb]; rfl
    · obtain ⟨q, hq, h⟩ := orec_some h
      obtain ⟨hk, h⟩ := brec_true h
      rw [asInt_some] at hp hq
      rw [kEq_iff] at hk
      have hh : iEq p.2 q.2 = r := Option.some.inj h
      subst hp hq hh
      rw [V_int] at hx hy
      subst hx hy
      rw [← hk, iEq_eq]
      exact ⟨rfl, rfl, by rw [binOp_eql]; rfl, by rw [binOp_neq]; rfl⟩
  have isn : ∀ {k : Nat} {z : AV}, z = .nul k → V val ρ z (nulV k) → True := fun _ _ => trivial
  unfold eqT? at ht
  split at ht
  · cases ht; exact num h
  · cases ht; exact num h
  · rename_i hu
    cases ht
    obtain ⟨c, hc, h⟩ := orec_some h
    obtain ⟨d, hd, h⟩ := orec_some h
    rw [asBool_some] at hc hd
    subst hc hd
    rw [V_bool] at hx hy
    subst hx hy
    have hr : r = (c == d) := by cases h; cases c <;> cases d <;> rfl
    subst hr
    exact EqOk.mk' rfl rfl rfl rfl (run_equalIn_bool w 9999 t c d hu)
  · rename_i el hu
    split at ht
    · rename_i n hn
      cases ht
      rcases orec_or h with ⟨_, h⟩ | ⟨p, hp, h⟩
      · replace h : eqNil 0 true (fun x => isO (asPtr x)) a b = some r := h
        rcases eqNil_some h with ⟨h1, h2, _, h3⟩ | ⟨h1, h2, h3⟩ | ⟨h1, h2, h3⟩
        · subst h1 h2 h3
          obtain ⟨_, rfl⟩ := V_nul.1 hx
          obtain ⟨_, rfl⟩ := V_nul.1 hy
          exact EqOk.mk' rfl rfl rfl rfl (by unfold Op.equalIn; simp [und_run hu, nulV])
        · obtain ⟨q, hq⟩ := isO_ex h2
          rw [asPtr_some] at hq
          subst h1 hq h3
          obtain ⟨_, rfl⟩ := V_nul.1 hx
          obtain ⟨L, _, rfl⟩ := V_ptr.1 hy
          exact EqOk.mk' rfl rfl rfl rfl (by unfold Op.equalIn; simp [und_run hu, nulV])
        · obtain ⟨q, hq⟩ := isO_ex h1
          rw [asPtr_some] at hq
          subst h2 hq h3
          obtain ⟨_, rfl⟩ := V_nul.1 hy
          obtain ⟨L, _, rfl⟩ := V_ptr.1 hx
          exact EqOk.mk' rfl rfl rfl rfl (by unfold Op.equalIn; simp [und_run hu, nulV])
      · rw [asPtr_some] at hp
        subst hp
        obtain ⟨L, hL, rfl⟩ := V_ptr.1 hx
        rcases orec_or h with ⟨_, h⟩ | ⟨q, hq, h⟩
        · obtain ⟨_, hq, h⟩ := orec_some h
          cases h
          rw [nulIs_some hq] at hy
          obtain ⟨_, rfl⟩ := V_nul.1 hy
          exact EqOk.mk' rfl rfl rfl rfl (by unfold Op.equalIn; simp [und_run hu, nulV])
        · rw [asPtr_some] at hq
          subst hq
          obtain ⟨hid, h⟩ := brec_true h
          cases h
          rw [idEq_iff] at hid
          obtain ⟨L', hL', rfl⟩ := V_ptr.1 hy
          rw [← hid, hL] at hL'
          cases hL'
          refine EqOk.mk' rfl rfl rfl rfl ?_
          unfold Op.equalIn
          have : (sizeOf el).run P w = .ok (n + 1) w := sz_run hn w
          have hb : ((⟨L.blk, L.sh + p.2, none⟩ : Addr) == ⟨L.blk, L.sh + q.2, none⟩) = Nat.beq p.2 q.2 := by
            rw [Bool.eq_iff_iff, beq_iff_eq, Nat.beq_eq]
            simp
          simp [und_run hu, this, sameAddr, hb]
    · cases ht
  · rename_i el hu
    cases ht
    replace h : eqNil 1 true (fun x => isO (asSlc x)) a b = some r := h
    rcases eqNil_some h with ⟨h1, h2, _, h3⟩ | ⟨h1, h2, h3⟩ | ⟨h1, h2, h3⟩
    · subst h1 h2 h3
      obtain ⟨_, rfl⟩ := V_nul.1 hx
      obtain ⟨_, rfl⟩ := V_nul.1 hy
      exact EqOk.mk' rfl rfl rfl rfl (by unfold Op.equalIn; simp [und_run hu, nulV])
    · obtain ⟨q, hq⟩ := isO_ex h2
      rw [asSlc_some] at hq
      subst h1 h3
      rw [hq] at hy
      obtain ⟨_, rfl⟩ := V_nul.1 hx
      obtain ⟨L, ad, c, _, rfl, _⟩ := V_slc.1 hy
      exact EqOk.mk' rfl rfl rfl rfl (by unfold Op.equalIn; simp [und_run hu, nulV])
    · obtain ⟨q, hq⟩ := isO_ex h1
      rw [asSlc_some] at hq
      subst h2 h3
      rw [hq] at hx
      obtain ⟨_, rfl⟩ := V_nul.1 hy
      obtain ⟨L, ad, c, _, rfl, _⟩ := V_slc.1 hx
      exact EqOk.mk' rfl rfl rfl rfl (by unfold Op.equalIn; simp [und_run hu, nulV])
  · rename_i k el hu
    cases ht
    replace h : eqNil 2 true (fun x => isO (asMap x)) a b = some r := h
    rcases eqNil_some h with ⟨h1, h2, _, h3⟩ | ⟨h1, h2, h3⟩ | ⟨h1, h2, h3⟩
    · subst h1 h2 h3
      obtain ⟨_, rfl⟩ := V_nul.1 hx
      obtain ⟨_, rfl⟩ := V_nul.1 hy
      exact EqOk.mk' rfl rfl rfl rfl (by unfold Op.equalIn; simp [und_run hu, nulV])
    · obtain ⟨q, hq⟩ := isO_ex h2
      rw [asMap_some] at hq
      subst h1 hq h3
      obtain ⟨_, rfl⟩ := V_nul.1 hx
      obtain ⟨L, _, rfl⟩ := V_map.1 hy
      exact EqOk.mk' rfl rfl rfl rfl (by unfold Op.equalIn; simp [und_run hu, nulV])
    · obtain ⟨q, hq⟩ := isO_ex h1
      rw [asMap_some] at hq
      subst h2 hq h3
      obtain ⟨_, rfl⟩ := V_nul.1 hy
      obtain ⟨L, _, rfl⟩ := V_map.1 hx
      exact EqOk.mk' rfl rfl rfl rfl (by unfold Op.equalIn; simp [und_run hu, nulV])
  · rename_i hu
    cases ht
    replace h : eqNil 3 true (fun x => isO (asFn x)) a b = some r := h
    rcases eqNil_some h with ⟨h1, h2, _, h3⟩ | ⟨h1, h2, h3⟩ | ⟨h1, h2, h3⟩
    · subst h1 h2 h3
      obtain ⟨_, rfl⟩ := V_nul.1 hx
      obtain ⟨_, rfl⟩ := V_nul.1 hy
      exact EqOk.mk' rfl rfl rfl rfl (by unfold Op.equalIn; simp [und_run hu, nulV])
    · obtain ⟨q, hq⟩ := isO_ex h2
      rw [asFn_some] at hq
      subst h1 hq h3
      obtain ⟨_, rfl⟩ := V_nul.1 hx
      obtain ⟨_, _, rfl, _⟩ := V_fn.1 hy
      exact EqOk.mk' rfl rfl rfl rfl (by unfold Op.equalIn; simp [und_run hu, nulV])
    · obtain ⟨q, hq⟩ := isO_ex h1
      rw [asFn_some] at hq
      subst h2 hq h3
      obtain ⟨_, rfl⟩ := V_nul.1 hy
      obtain ⟨_, _, rfl, _⟩ := V_fn.1 hx
      exact EqOk.mk' rfl rfl rfl rfl (by unfold Op.equalIn; simp [und_run hu, nulV])
  · rename_i ms hu
    cases ht
    replace h : eqNil 4 (isCst x || isCst y) (fun x => isO (asIface x)) a b = some r := h
    rcases eqNil_some h with ⟨h1, h2, hc, h3⟩ | ⟨h1, h2, h3⟩ | ⟨h1, h2, h3⟩
    · subst h1 h2 h3
      obtain ⟨_, rfl⟩ := V_nul.1 hx
      obtain ⟨_, rfl⟩ := V_nul.1 hy
      have g : ∀ op, eqGuard op t x y .nilIface .nilIface = pure () := by
        intro op
        cases x <;> cases y <;> simp [isCst] at hc <;> cases op <;> rfl
      exact EqOk.mk' (g _) (g _) rfl rfl (by unfold Op.equalIn; simp [und_run hu, nulV])
    · obtain ⟨q, hq⟩ := isO_ex h2
      have hq' : b = .iface q.1 q.2 := by cases b <;> simp [asIface] at hq; subst hq; rfl
      subst h1 h3
      rw [hq'] at hy
      obtain ⟨_, rfl⟩ := V_nul.1 hx
      obtain ⟨_, rfl, _⟩ := V_iface.1 hy
      exact EqOk.mk' rfl rfl rfl rfl (by unfold Op.equalIn; simp [und_run hu, nulV])
    · obtain ⟨q, hq⟩ := isO_ex h1
      have hq' : a = .iface q.1 q.2 := by cases a <;> simp [asIface] at hq; subst hq; rfl
      subst h2 h3
      rw [hq'] at hx
      obtain ⟨_, rfl⟩ := V_nul.1 hy
      obtain ⟨_, rfl, _⟩ := V_iface.1 hx
      exact EqOk.mk' rfl rfl rfl rfl (by unfold Op.equalIn; simp [und_run hu, nulV])
  all_goals first | (cases ht; done) | skip
  all_goals
    split at ht <;> (try cases ht)
    rename_i ks hf
    obtain ⟨l, hl, h⟩ := orec_some h
    obtain ⟨m, hm, h⟩ := orec_some h
    obtain ⟨hk, hh⟩ := brec_true h
    rw [asAgg_some] at hl hm
    subst hl hm
    obtain ⟨us, rfl, hus⟩ := V_agg.1 hx
    obtain ⟨vs, rfl, hvs⟩ := V_agg.1 hy
    obtain ⟨h1, h2⟩ := flat_run (d := 9998) hf hk hh hus hvs w
    have g : ∀ op, op = .eql ∨ op = .neq → (eqGuard op t x y (.agg us) (.agg vs)).run P w = .ok () w := by
      rintro op (rfl | rfl) <;> simp [eqGuard, h1]
    refine ⟨g _ (.inl rfl), g _ (.inr rfl), ?_, ?_⟩
    · have : binOp .eql t (.agg us) (.agg vs) = (do pure (.bool (← Op.equalIn (9998 + 2) t (.agg us) (.agg vs)))) := rfl
      rw [this]; simp [h2]
    · have : binOp .neq t (.agg us) (.agg vs) = (do pure (.bool (!(← Op.equalIn (9998 + 2) t (.agg us) (.agg vs))))) := rfl
      rw [this]; simp [h2]
end Go.Ev
