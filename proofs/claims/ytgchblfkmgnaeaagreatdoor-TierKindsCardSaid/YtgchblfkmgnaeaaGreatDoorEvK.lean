/- Operations that change the memory. -/
import Derived.Test.YtgchblfkmgnaeaaGreatDoorEvJ
import Derived.Laws.IdiomRangeMap
set_option linter.unusedVariables false
set_option linter.unusedSimpArgs false
set_option linter.unusedSectionVars false
namespace Go.Ev

variable {P : Program} {val : Nat → Value} {ρ : Rho}

theorem V_one (hval : ∀ i, (val i).oneCell' = true) {a : AV} {v : Value} (h : a.one = true) (hV : V val ρ a v) : v.oneCell' = true := by
  cases a with
  | agg l => cases h
  | tup l => cases h
  | opq i => simp only [V] at hV; subst hV; exact hval i
  | nul k => simp only [V] at hV; obtain ⟨hk, rfl⟩ := hV; match k, hk with | 0, _ => rfl | 1, _ => rfl | 2, _ => rfl | 3, _ => rfl | 4, _ => rfl
  | _ =>
    simp only [V] at hV
    first
      | (subst hV; rfl)
      | (obtain ⟨_, _, _, _, rfl, _⟩ := hV; rfl)
      | (obtain ⟨_, _, rfl, _⟩ := hV; rfl)
      | (obtain ⟨_, _, rfl⟩ := hV; rfl)
      | (obtain ⟨_, rfl, _⟩ := hV; rfl)
      | (obtain ⟨_, rfl⟩ := hV; rfl)
theorem Vs_one (hval : ∀ i, (val i).oneCell' = true) {l : List AV} {m : List Value} (h : ∀ x ∈ l, x.one = true) (hV : Vs val ρ l m) : ∀ v ∈ m, v.oneCell' = true := by
  intro v hv
  obtain ⟨i, hi, rfl⟩ := List.getElem_of_mem hv
  have hl := Vs_len hV
  have hi' : i < l.length := by omega
  obtain ⟨u, hu, hVu⟩ := Vs_get hV (List.getElem?_eq_getElem hi')
  rw [List.getElem?_eq_getElem hi] at hu
  cases hu
  exact V_one hval (h _ (List.getElem_mem hi')) hVu
theorem not_agg (hval : ∀ i, (val i).oneCell' = true) : ∀ i l, val i ≠ .agg l := fun i l h => by have := hval i; rw [h] at this; cases this

/-- Cells written over a block's. -/
theorem storeCells_run (b o : Nat) (el : TypeId) (f : Nat × Nat) : ∀ (vs : List Value) (i : Nat) (c : Array Value) (w : World), w.heap[b]? = some (.cells c el f) → o + i + vs.length ≤ c.size →
    (∀ j, j < vs.length → ¬ (f.1 ≤ o + i + j ∧ o + i + j < f.2)) → (∀ v ∈ vs, v.oneCell' = true) →
    ∃ w' c', (storeCells ⟨b, o, none⟩ vs i).run P w = .ok () w' ∧ Wrote w b w' ∧ w'.heap[b]? = some (.cells c' el f) ∧ c'.size = c.size ∧ ∀ j, c'[j]? = if o + i ≤ j ∧ j < o + i + vs.length then vs[j - (o + i)]? else c[j]?
  | [], i, c, w, hb, _, _, _ => ⟨w, c, rfl, ⟨rfl, fun _ _ => rfl, rfl, rfl, rfl⟩, hb, rfl, fun j => by rw [if_neg (by simp)]⟩
  | v :: vs, i, c, w, hb, hle, hfr, h1 => by
    simp only [List.length_cons] at hle
    have hlt : o + i < c.size := by omega
    have hcell : w.cell? ⟨b, o + i, none⟩ = some c[o + i] := by simp [World.cell?, hb, hlt]
    have hfz : w.frozen? ⟨b, o + i, none⟩ = false := by
      have := hfr 0 (by simp)
      obtain ⟨lo, hi⟩ := f
      simp only [World.frozen?, hb]
      simp only [Nat.add_zero, not_and, Nat.not_lt] at this
      rw [Bool.and_eq_false_iff, decide_eq_false_iff_not, decide_eq_false_iff_not]
      by_cases h : lo ≤ o + i
      · exact .inr (by have := this h; omega)
      · exact .inl h
    have hst : (store ((⟨b, o, none⟩ : Addr).add i) v).run P w = .ok () (w.setCell ⟨b, o + i, none⟩ v) := by
      rw [Addr.add_lit, run_store P w _ v _ (h1 v (by simp))]
      simp [hcell, hfz]
    have hbk : (w.setCell ⟨b, o + i, none⟩ v).heap[b]? = some (.cells (c.setIfInBounds (o + i) v) el f) := by
      obtain ⟨hbl, hbe⟩ := Array.getElem?_eq_some_iff.1 hb
      simp [World.setCell, Array.getElem?_modify, hb]
    have hother : ∀ j, j ≠ b → (w.setCell ⟨b, o + i, none⟩ v).heap[j]? = w.heap[j]? := by
      intro j hj
      simp [World.setCell, Array.getElem?_modify, Ne.symm hj]
    obtain ⟨w', c', k1, k2, k3, k4, k5⟩ := storeCells_run b o el f vs (i + 1) (c.setIfInBounds (o + i) v) (w.setCell ⟨b, o + i, none⟩ v) hbk (by simp; omega)
      (fun j hj => by have := hfr (j + 1) (by simp; omega); rwa [show o + i + (j + 1) = o + (i + 1) + j by omega] at this) (fun x hx => h1 x (by simp [hx]))
    refine ⟨w', c', ?_, ⟨by rw [k2.size]; simp, fun j hj => (k2.other j hj).trans (hother j hj), k2.os, k2.tape, k2.output⟩, k3, by rw [k4]; simp, fun j => ?_⟩
    · simp only [storeCells, Sem.run_bind, hst, Result.andThen_ok, k1]
    · rw [k5]
      simp only [List.length_cons]
      by_cases e : j = o + i
      · subst e
        rw [if_neg (by omega), if_pos (by omega), Array.getElem?_setIfInBounds_self_of_lt hlt]
        simp
      · by_cases e2 : o + (i + 1) ≤ j ∧ j < o + (i + 1) + vs.length
        · rw [if_pos e2, if_pos (by omega)]
          have : j - (o + i) = (j - (o + (i + 1))) + 1 := by omega
          rw [this]; rfl
        · rw [if_neg e2, if_neg (by omega), Array.getElem?_setIfInBounds_ne (by omega)]

/-- What an operation tells. -/
def toldOf : Next → Option Value
  | .value v => some v
  | .skip => some undef
  | _ => none
theorem V_undef : V val ρ (.tup []) undef := V_tup.2 ⟨#[], rfl, Vs_nil⟩

/-- What an operation that changes the memory comes to. -/
def Eff (P : Program) (val : Nat → Value) (ρ : Rho) (h : Hp) (w : World) (v : AV) (h' : Hp) (s : Sem Next) : Prop :=
  ∃ ρ' nx u w', s.run P w = .ok nx w' ∧ toldOf nx = some u ∧ V val ρ' v u ∧ R val ρ' h'.get h'.next w' ∧ Mv ρ h.get h.next w ρ' h'.get h'.next w'

theorem R.rd {g : Gt} {nx : Id} {w : World} (h : R val ρ g nx w) : Rd val ρ g w := h.ob

theorem setMap_run {w : World} {r : Nat} {a : Array MapEntry} {c : Nat} (o : Obj) (h : w.heap[r]? = some (.map a c)) :
    (setObj r o).run P w = .ok () { w with heap := w.heap.setIfInBounds r o } := by simp [setObj, Sem.run, h]
theorem setIt_run {w : World} {r : Nat} {m : Option Nat} {s : Nat} {a : Array Nat} {c : Nat} (o : Obj) (h : w.heap[r]? = some (.mapIter m s a c)) :
    (setObj r o).run P w = .ok () { w with heap := w.heap.setIfInBounds r o } := by simp [setObj, Sem.run, h]
theorem wrote_set (w : World) (r : Nat) (o : Obj) : Wrote w r { w with heap := w.heap.setIfInBounds r o } :=
  ⟨by simp, fun i hi => by simp [Array.getElem?_setIfInBounds_ne (Ne.symm hi)], rfl, rfl, rfl⟩
theorem set_get {w : World} {r : Nat} {o o' : Obj} (h : w.heap[r]? = some o') : (w.heap.setIfInBounds r o)[r]? = some o :=
  Array.getElem?_setIfInBounds_self_of_lt (Array.getElem?_eq_some_iff.1 h).1

theorem put_eff {h : Hp} {w w' : World} {r : Id} {o o' : Ob} {L : Loc} {v : AV} {u : Value} {nx : Next} {s : Sem Next} (hR : R val ρ h.get h.next w) (hg : h.get r = some o) (hL : ρ r = some L) (hro : L.ro = false) (hw : Wrote w L.blk w') (hO : ObR val ρ L w'.heap o')
    (hs : s.run P w = .ok nx w') (hn : toldOf nx = some u) (hV : V val ρ v u) : Eff P val ρ h w v (h.put r o') s := by
  obtain ⟨h1, h2⟩ := hR.put hg hL hro hw hO
  refine ⟨ρ, nx, u, w', hs, hn, hV, ?_, ?_⟩
  · rw [Hp.get_put]; exact h1
  · rw [Hp.get_put]; exact h2
theorem new_eff {h : Hp} {w w' : World} {o : Ob} {L : Loc} {v : AV} {u : Value} {nx : Next} {s : Sem Next} (hR : R val ρ h.get h.next w) (hw : Grew w w') (hb : L.blk = w.heap.size) (hO : ObR val (upd ρ h.next L) L w'.heap o)
    (hs : s.run P w = .ok nx w') (hn : toldOf nx = some u) (hV : V val (upd ρ h.next L) v u) : Eff P val ρ h w v (h.new o) s := by
  have hid : ρ h.next = none := hR.fr _ (Nat.le_refl _)
  have hlt : num h.next < num (inc h.next) := by rw [num_inc]; omega
  refine ⟨_, nx, u, w', hs, hn, hV, ?_, ?_⟩
  · rw [Hp.get_new]; exact hR.alloc hid hlt (Nat.le_of_lt hlt) hw hb hO
  · rw [Hp.get_new]; exact Mv.alloc hid (Nat.le_refl _) (Nat.le_of_lt hlt) hw hb
theorem same_eff {h : Hp} {w : World} {v : AV} {u : Value} {nx : Next} {s : Sem Next} (hR : R val ρ h.get h.next w) (hs : s.run P w = .ok nx w) (hn : toldOf nx = some u) (hV : V val ρ v u) : Eff P val ρ h w v h s :=
  ⟨ρ, nx, u, w, hs, hn, hV, hR, Mv.refl _ _ _ _⟩

theorem list1_some {vs : List AV} {a : AV} (h : list1 vs = some a) : vs = [a] := by
  cases vs with
  | nil => cases h
  | cons b l => cases l with
    | nil => cases h; rfl
    | cons c l => cases h
theorem list2_some {vs : List AV} {p : AV × AV} (h : list2 vs = some p) : vs = [p.1, p.2] := by
  cases vs with
  | nil => cases h
  | cons a l => cases l with
    | nil => cases h
    | cons b l => cases l with
      | nil => cases h; rfl
      | cons c l => cases h
theorem list3_some {vs : List AV} {p : AV × AV × AV} (h : list3 vs = some p) : vs = [p.1, p.2.1, p.2.2] := by
  cases vs with
  | nil => cases h
  | cons a l =>
    obtain ⟨q, hq, h⟩ := orec_some (show (Option.rec none (fun p => some (a, p.1, p.2)) (list2 l) : Option (AV × AV × AV)) = some p from h)
    cases h
    rw [list2_some hq]
theorem Vs2 {a b : AV} {m : List Value} (h : Vs val ρ [a, b] m) : ∃ x y, m = [x, y] ∧ V val ρ a x ∧ V val ρ b y := by
  obtain ⟨x, r, rfl, h2, h3⟩ := Vs_cons_iff.1 h
  obtain ⟨y, r, rfl, h4, h5⟩ := Vs_cons_iff.1 h3
  rw [Vs_nil_iff.1 h5]
  exact ⟨x, y, rfl, h2, h4⟩
theorem Vs1 {a : AV} {m : List Value} (h : Vs val ρ [a] m) : ∃ x, m = [x] ∧ V val ρ a x := by
  obtain ⟨x, r, rfl, h2, h3⟩ := Vs_cons_iff.1 h
  rw [Vs_nil_iff.1 h3]
  exact ⟨x, rfl, h2⟩
theorem Vs3 {a b c : AV} {m : List Value} (h : Vs val ρ [a, b, c] m) : ∃ x y z, m = [x, y, z] ∧ V val ρ a x ∧ V val ρ b y ∧ V val ρ c z := by
  obtain ⟨x, r, rfl, h2, h3⟩ := Vs_cons_iff.1 h
  obtain ⟨y, z, rfl, h4, h5⟩ := Vs2 h3
  exact ⟨x, y, z, rfl, h2, h4, h5⟩

/-- A map in the memory. -/
theorem map_at {h : Hp} {w : World} {r : Id} {p : List Ent × Nat} {m : Value} (hR : R val ρ h.get h.next w) (hp : mapX (h.get r) = some p) (hm : V val ρ (.map r) m) :
    ∃ L arr, ρ r = some L ∧ L.ro = false ∧ m = .map (some L.blk) ∧ w.heap[L.blk]? = some (.map arr p.2) ∧ Es val ρ p.1 arr.toList := by
  obtain ⟨L, hL, rfl⟩ := V_map.1 hm
  obtain ⟨K, hK, hro, arr, h1, h2⟩ := hR.ob r _ (mapX_some hp)
  rw [hL] at hK
  cases hK
  exact ⟨L, arr, hL, hro, rfl, h1, h2⟩

theorem Es_append {l l' : List Ent} {m m' : List MapEntry} (h : Es val ρ l m) (h' : Es val ρ l' m') : Es val ρ (l ++ l') (m ++ m') := by
  induction l generalizing m with
  | nil => rw [show m = [] from h]; exact h'
  | cons a l ih => obtain ⟨x, r, rfl, h1, h2, h3, h4⟩ := h; exact ⟨x, _, rfl, h1, h2, h3, ih h4⟩
theorem Es_set {l : List Ent} {m : List MapEntry} (h : Es val ρ l m) (i : Nat) (e : Ent) (y : MapEntry) (h1 : V val ρ e.1 y.key) (h2 : V val ρ e.2.1 y.val) (h3 : y.born = e.2.2) : Es val ρ (l.set i e) (m.set i y) := by
  refine Es_of_get (by simp [Es_len h]) fun j x hj => ?_
  rw [List.getElem?_set] at hj
  split at hj
  · rename_i hij
    subst hij
    split at hj
    · cases hj
      rename_i hlt
      exact ⟨y, by rw [List.getElem?_set]; simp [Es_len h, hlt], h1, h2, h3⟩
    · cases hj
  · rename_i hij
    obtain ⟨z, hz, hr⟩ := Es_get h hj
    exact ⟨z, by rw [List.getElem?_set, if_neg hij]; exact hz, hr⟩
theorem Es_erase {l : List Ent} {m : List MapEntry} (h : Es val ρ l m) (i : Nat) : Es val ρ (l.eraseIdx i) (m.eraseIdx i) := by
  have hl := Es_len h
  refine Es_of_get (by rw [List.length_eraseIdx, List.length_eraseIdx, hl]) fun j x hj => ?_
  rw [List.getElem?_eraseIdx] at hj ⊢
  split at hj
  · rw [if_pos ‹_›]; exact Es_get h hj
  · rw [if_neg ‹_›]; exact Es_get h hj
theorem modify_toList {α : Type} (a : Array α) (i : Nat) (x : α) (f : α → α) (hx : a[i]? = some x) : (a.modify i f).toList = a.toList.set i (f x) := by
  apply List.ext_getElem?
  intro j
  rw [List.getElem?_set]
  simp only [Array.getElem?_toList, Array.getElem?_modify, Array.length_toList]
  by_cases h : i = j
  · subst h
    obtain ⟨hlt, hxx⟩ := Array.getElem?_eq_some_iff.1 hx
    simp [hxx, hlt]
  · simp [h]
end Go.Ev
