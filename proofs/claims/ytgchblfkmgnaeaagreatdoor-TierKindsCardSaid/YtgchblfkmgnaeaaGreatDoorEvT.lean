/- The coin's region. -/
import Derived.Test.YtgchblfkmgnaeaaGreatDoorEvS
set_option linter.unusedVariables false
set_option linter.unusedSimpArgs false
set_option linter.unusedSectionVars false
namespace Go.Ev

variable {P : Program} {val : Nat → Value} {ρ : Rho}

theorem bif_some {α : Type} {b : Bool} {x : Option α} {p : α} (h : (bif b then x else none) = some p) : b = true ∧ x = some p := by
  cases b with
  | false => cases h
  | true => exact ⟨rfl, h⟩
theorem coin_spec {l : List Oper} {b d : Nat} (h : coinDst P l = some (b, d)) : ∃ t0 t1 t2 t3 y0 y1 y2 y3 p0 p1 p2 p3 a0 a1 a2 a3, b ≠ d ∧ (∃ z, zero? P t0 = some (z, 1)) ∧ pt? P t1 = some (false, 1) ∧ pt? P t2 = some (false, 1) ∧ pt? P t3 = some (false, 1) ∧ coinEdges l = true ∧
    l = [⟨some b, .alloc t0, y0, p0, a0, none⟩, ⟨none, .store t1 (.tmp b) (.const (.bool true)), y1, p1, a1, none⟩, ⟨none, .store t2 (.tmp b) (.const (.bool false)), y2, p2, a2, none⟩, ⟨some d, .load t3 (.tmp b), y3, p3, a3, none⟩] := by
  unfold coinDst at h
  split at h
  · rename_i p hp
    cases he : coinEdges l with
    | false => simp only [he, cond_false] at h; cases h
    | true =>
      simp only [he, cond_true] at h
      cases h
      unfold coinShape at hp
      split at hp
      · rename_i a t0 y0 p0 a0 t1 b' y1 p1 a1 t2 c y2 p2 a2 d' t3 e y3 p3 a3
        split at hp
        · rename_i hc
          obtain ⟨rfl, rfl, rfl, hne⟩ := hc
          have one : ∀ t, one? P t = true → pt? P t = some (false, 1) := by
            intro t ht
            unfold one? at ht
            split at ht
            · assumption
            · cases ht
          obtain ⟨hb, hp⟩ := bif_some hp
          cases hp
          simp only [Bool.and_eq_true] at hb
          obtain ⟨⟨⟨h0, h1⟩, h2⟩, h3⟩ := hb
          refine ⟨t0, t1, t2, t3, y0, y1, y2, y3, p0, p1, p2, p3, a0, a1, a2, a3, hne, ?_, one _ h1, one _ h2, one _ h3, rfl, rfl⟩
          split at h0
          · rename_i z hz; exact ⟨z, hz⟩
          · cases h0
        · cases hp
      · cases hp
  · cases h
end Go.Ev
