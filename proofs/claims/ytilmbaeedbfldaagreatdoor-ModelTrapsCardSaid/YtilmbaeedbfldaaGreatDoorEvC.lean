/- What abstract values, memories and slots say of the model's. -/
import Derived.Test.YtilmbaeedbfldaaGreatDoorEvB
import Derived.Laws.Sem
import Derived.Laws.World
set_option linter.unusedVariables false
set_option linter.unusedSimpArgs false
set_option linter.unusedSectionVars false
namespace Go.Ev

/-- Where a row stands in the model's memory: its block, the place of its first cell, how many cells the block has. -/
structure Loc where
  blk : Nat
  sh : Nat
  size : Nat
  ro : Bool
abbrev Rho := Id → Option Loc

/-- The nils. -/
def nulV : Nat → Value
  | 0 => .pointer none
  | 1 => .slice none 0 0
  | 2 => .map none
  | 3 => .nilFunc
  | _ => .nilIface

mutual
/-- An abstract value says this of a value. -/
def V (val : Nat → Value) (ρ : Rho) : AV → Value → Prop
  | .int k n, v => v = .int k n
  | .bool b, v => v = .bool b
  | .ptr r off, v => ∃ L, ρ r = some L ∧ v = .pointer (some ⟨L.blk, L.sh + off, none⟩)
  | .slc r off len sz cap, v => ∃ L a c, ρ r = some L ∧ v = .slice (some a) len c ∧ len ≤ c ∧ (∀ k, cap = some k → k = c) ∧ (c = 0 ∨ (a = ⟨L.blk, L.sh + off, none⟩ ∧ L.sh + off + c * sz ≤ L.size))
  | .str n l, v => ∃ s : ByteArray, v = .string s ∧ s.data.toList.length = l ∧ enc s.data.toList = n
  | .agg l, v => ∃ a : Array Value, v = .agg a ∧ Vs val ρ l a.toList
  | .nul k, v => k < 5 ∧ v = nulV k
  | .map r, v => ∃ L, ρ r = some L ∧ v = .map (some L.blk)
  | .fn f a c, v => ∃ xs ys : Array Value, v = .func (.func f) xs ys ∧ Vs val ρ a xs.toList ∧ Vs val ρ c ys.toList
  | .tup l, v => ∃ a : Array Value, v = .tuple a ∧ Vs val ρ l a.toList
  | .iface t x, v => ∃ y, v = .iface t y ∧ V val ρ x y
  | .coin, v => ∃ b, v = .bool b
  | .opq i, v => v = val i
def Vs (val : Nat → Value) (ρ : Rho) : List AV → List Value → Prop
  | [], m => m = []
  | a :: l, m => ∃ v r, m = v :: r ∧ V val ρ a v ∧ Vs val ρ l r
end

variable {val : Nat → Value} {ρ ρ' : Rho}

theorem Vs_nil : Vs val ρ [] [] := by simp [Vs]
theorem Vs_cons {a : AV} {v : Value} {l : List AV} {r : List Value} (h : V val ρ a v) (hs : Vs val ρ l r) : Vs val ρ (a :: l) (v :: r) := by
  rw [Vs]; exact ⟨v, r, rfl, h, hs⟩
theorem Vs_nil_iff {m : List Value} : Vs val ρ [] m ↔ m = [] := by rw [Vs]
theorem Vs_cons_iff {a : AV} {l : List AV} {m : List Value} : Vs val ρ (a :: l) m ↔ ∃ v r, m = v :: r ∧ V val ρ a v ∧ Vs val ρ l r := by rw [Vs]
theorem Vs_len : ∀ {l : List AV} {m : List Value}, Vs val ρ l m → m.length = l.length
  | [], m, h => by rw [Vs_nil_iff.1 h]; rfl
  | a :: l, m, h => by obtain ⟨v, r, rfl, _, hs⟩ := Vs_cons_iff.1 h; simp [Vs_len hs]
theorem Vs_get : ∀ {l : List AV} {m : List Value}, Vs val ρ l m → ∀ {i : Nat} {a : AV}, l[i]? = some a → ∃ v, m[i]? = some v ∧ V val ρ a v
  | [], m, _, i, a, hi => by simp at hi
  | b :: l, m, h, i, a, hi => by
    obtain ⟨v, r, rfl, hv, hs⟩ := Vs_cons_iff.1 h
    cases i with
    | zero => simp at hi; subst hi; exact ⟨v, rfl, hv⟩
    | succ i => simp at hi; obtain ⟨u, hu, hV⟩ := Vs_get hs hi; exact ⟨u, by simpa using hu, hV⟩
theorem Vs_of_get : ∀ {l : List AV} {m : List Value}, m.length = l.length → (∀ (i : Nat) (a : AV), l[i]? = some a → ∃ v, m[i]? = some v ∧ V val ρ a v) → Vs val ρ l m
  | [], m, h, _ => by rw [Vs_nil_iff]; exact List.length_eq_zero_iff.1 (by simpa using h)
  | b :: l, [], h, _ => by simp at h
  | b :: l, v :: m, h, H => by
    refine Vs_cons ?_ (Vs_of_get (by simpa using h) fun i a hi => ?_)
    · obtain ⟨u, hu, hV⟩ := H 0 b rfl
      simp at hu; subst hu; exact hV
    · obtain ⟨u, hu, hV⟩ := H (i + 1) a (by simpa using hi)
      exact ⟨u, by simpa using hu, hV⟩
theorem Vs_append {l l' : List AV} {m m' : List Value} (h : Vs val ρ l m) (h' : Vs val ρ l' m') : Vs val ρ (l ++ l') (m ++ m') := by
  induction l generalizing m with
  | nil => rw [Vs_nil_iff.1 h]; exact h'
  | cons a l ih => obtain ⟨v, r, rfl, hv, hs⟩ := Vs_cons_iff.1 h; exact Vs_cons hv (ih hs)
theorem Vs_append_iff {l l' : List AV} {m : List Value} (h : Vs val ρ (l ++ l') m) : ∃ a b, m = a ++ b ∧ Vs val ρ l a ∧ Vs val ρ l' b := by
  induction l generalizing m with
  | nil => exact ⟨[], m, rfl, Vs_nil, h⟩
  | cons a l ih =>
    obtain ⟨v, r, rfl, hv, hs⟩ := Vs_cons_iff.1 h
    obtain ⟨x, y, rfl, hx, hy⟩ := ih hs
    exact ⟨v :: x, y, rfl, Vs_cons hv hx, hy⟩
theorem Vs_take {l : List AV} {m : List Value} (h : Vs val ρ l m) (n : Nat) : Vs val ρ (l.take n) (m.take n) := by
  refine Vs_of_get (by simp [Vs_len h]) fun i a hi => ?_
  rw [List.getElem?_take] at hi
  split at hi
  · obtain ⟨v, hv, hV⟩ := Vs_get h hi
    exact ⟨v, by rw [List.getElem?_take, if_pos ‹_›]; exact hv, hV⟩
  · cases hi
theorem Vs_drop {l : List AV} {m : List Value} (h : Vs val ρ l m) (n : Nat) : Vs val ρ (l.drop n) (m.drop n) := by
  refine Vs_of_get (by simp [Vs_len h]) fun i a hi => ?_
  rw [List.getElem?_drop] at hi
  obtain ⟨v, hv, hV⟩ := Vs_get h hi
  exact ⟨v, by rw [List.getElem?_drop]; exact hv, hV⟩

def Ext (ρ ρ' : Rho) : Prop := ∀ r L, ρ r = some L → ρ' r = some L
theorem Ext.refl (ρ : Rho) : Ext ρ ρ := fun _ _ h => h
theorem Ext.trans {ρ'' : Rho} (h : Ext ρ ρ') (h' : Ext ρ' ρ'') : Ext ρ ρ'' := fun r L k => h' r L (h r L k)

mutual
theorem V_mono (he : Ext ρ ρ') : ∀ (a : AV) (v : Value), V val ρ a v → V val ρ' a v
  | .int k n, v, h => by simpa [V] using h
  | .bool b, v, h => by simpa [V] using h
  | .ptr r off, v, h => by simp only [V] at h ⊢; obtain ⟨L, h1, h2⟩ := h; exact ⟨L, he _ _ h1, h2⟩
  | .slc r off len sz cap, v, h => by simp only [V] at h ⊢; obtain ⟨L, a, c, h1, h2⟩ := h; exact ⟨L, a, c, he _ _ h1, h2⟩
  | .str n l, v, h => by simpa [V] using h
  | .agg l, v, h => by simp only [V] at h ⊢; obtain ⟨a, h1, h2⟩ := h; exact ⟨a, h1, Vs_mono he l _ h2⟩
  | .nul k, v, h => by simpa [V] using h
  | .map r, v, h => by simp only [V] at h ⊢; obtain ⟨L, h1, h2⟩ := h; exact ⟨L, he _ _ h1, h2⟩
  | .fn f a c, v, h => by simp only [V] at h ⊢; obtain ⟨x, y, h1, h2, h3⟩ := h; exact ⟨x, y, h1, Vs_mono he a _ h2, Vs_mono he c _ h3⟩
  | .tup l, v, h => by simp only [V] at h ⊢; obtain ⟨a, h1, h2⟩ := h; exact ⟨a, h1, Vs_mono he l _ h2⟩
  | .iface t x, v, h => by simp only [V] at h ⊢; obtain ⟨y, h1, h2⟩ := h; exact ⟨y, h1, V_mono he x y h2⟩
  | .coin, v, h => by simpa [V] using h
  | .opq i, v, h => by simpa [V] using h
theorem Vs_mono (he : Ext ρ ρ') : ∀ (l : List AV) (m : List Value), Vs val ρ l m → Vs val ρ' l m
  | [], m, h => by rw [Vs_nil_iff] at h ⊢; exact h
  | a :: l, m, h => by obtain ⟨v, r, h1, h2, h3⟩ := Vs_cons_iff.1 h; exact Vs_cons_iff.2 ⟨v, r, h1, V_mono he a v h2, Vs_mono he l r h3⟩
end

/-- Entries of a map. -/
def Es (val : Nat → Value) (ρ : Rho) : List Ent → List MapEntry → Prop
  | [], m => m = []
  | e :: l, m => ∃ x r, m = x :: r ∧ V val ρ e.1 x.key ∧ V val ρ e.2.1 x.val ∧ x.born = e.2.2 ∧ Es val ρ l r
theorem Es_mono (he : Ext ρ ρ') : ∀ (l : List Ent) (m : List MapEntry), Es val ρ l m → Es val ρ' l m
  | [], m, h => h
  | e :: l, m, h => by obtain ⟨x, r, h1, h2, h3, h4, h5⟩ := h; exact ⟨x, r, h1, V_mono he _ _ h2, V_mono he _ _ h3, h4, Es_mono he l r h5⟩

/-- What an abstract object says of the model's memory. -/
def ObR (val : Nat → Value) (ρ : Rho) (L : Loc) (heap : Array Obj) : Ob → Prop
  | .row ro cs => L.ro = ro ∧ ∃ c e f, heap[L.blk]? = some (.cells c e f) ∧ c.size = L.size ∧ L.sh + cs.length ≤ L.size ∧
      (∀ i a, cs[i]? = some a → ∃ v, c[L.sh + i]? = some v ∧ V val ρ a v) ∧ (ro = false → ∀ i, i < L.size → ¬ (f.1 ≤ i ∧ i < f.2))
  | .mp es clock => L.ro = false ∧ ∃ a, heap[L.blk]? = some (.map a clock) ∧ Es val ρ es a.toList
  | .mit m since seen last => L.ro = false ∧ L.sh = 0 ∧ ∃ m', heap[L.blk]? = some (.mapIter m' since seen.toArray last) ∧ (m = none → m' = none) ∧ ∀ r, m = some r → ∃ L', ρ r = some L' ∧ m' = some L'.blk
theorem ObR.mono (he : Ext ρ ρ') {L : Loc} {heap heap' : Array Obj} (hb : heap'[L.blk]? = heap[L.blk]?) : ∀ {o : Ob}, ObR val ρ L heap o → ObR val ρ' L heap' o
  | .row ro cs, h => by
    obtain ⟨h0, c, e, f, h1, h2, h3, h4, h5⟩ := h
    exact ⟨h0, c, e, f, hb.trans h1, h2, h3, fun i a hi => let ⟨v, hv, hV⟩ := h4 i a hi; ⟨v, hv, V_mono he _ _ hV⟩, h5⟩
  | .mp es clock, h => by
    obtain ⟨h0, a, h1, h2⟩ := h
    exact ⟨h0, a, hb.trans h1, Es_mono he _ _ h2⟩
  | .mit m since seen last, h => by
    obtain ⟨h0, hsh, m', h1, h2, h3⟩ := h
    exact ⟨h0, hsh, m', hb.trans h1, h2, fun r hr => let ⟨L', hL, hm⟩ := h3 r hr; ⟨L', he _ _ hL, hm⟩⟩
theorem ObR.lt {L : Loc} {heap : Array Obj} {o : Ob} (h : ObR val ρ L heap o) : L.blk < heap.size := by
  have : ∃ x, heap[L.blk]? = some x := by
    cases o with
    | row ro cs => obtain ⟨_, c, e, f, h1, _⟩ := h; exact ⟨_, h1⟩
    | mp es clock => obtain ⟨_, a, h1, _⟩ := h; exact ⟨_, h1⟩
    | mit m since seen last => obtain ⟨_, _, m', h1, _⟩ := h; exact ⟨_, h1⟩
  obtain ⟨x, hx⟩ := this
  exact (Array.getElem?_eq_some_iff.1 hx).1

abbrev Gt := Id → Option Ob
/-- An abstract memory says this of the model's. -/
structure R (val : Nat → Value) (ρ : Rho) (g : Gt) (nx : Id) (w : World) : Prop where
  ob : ∀ r o, g r = some o → ∃ L, ρ r = some L ∧ ObR val ρ L w.heap o
  ap : ∀ r r' o o' L L', g r = some o → g r' = some o' → r ≠ r' → ρ r = some L → ρ r' = some L' → L.blk = L'.blk → L.ro = true ∧ L'.ro = true
  fr : ∀ r, num nx ≤ num r → ρ r = none

/-- From one abstract memory to another one: what the model's memory may have become. -/
structure Mv (ρ : Rho) (g : Gt) (nx : Id) (w : World) (ρ' : Rho) (g' : Gt) (nx' : Id) (w' : World) : Prop where
  ext : Ext ρ ρ'
  up : num nx ≤ num nx'
  new : ∀ r L, ρ r = none → ρ' r = some L → num nx ≤ num r ∧ (w.heap.size ≤ L.blk ∨ ∃ r0 o0 L0, g r0 = some o0 ∧ ρ r0 = some L0 ∧ L0.ro = false ∧ L0.blk = L.blk)
  rows : ∀ r o L, g' r = some o → ρ r = some L → ∃ o0, g r = some o0
  os : w'.os = w.os
  tape : w'.tape = w.tape
  output : w'.output = w.output
  size : w.heap.size ≤ w'.heap.size
  block : ∀ b, b < w.heap.size → (∀ r o L, g r = some o → ρ r = some L → L.ro = false → L.blk ≠ b) → w'.heap[b]? = w.heap[b]?

theorem Mv.refl (ρ : Rho) (g : Gt) (nx : Id) (w : World) : Mv ρ g nx w ρ g nx w :=
  ⟨Ext.refl _, Nat.le_refl _, fun r L h h' => (by rw [h] at h'; cases h'), fun r o _ h _ => ⟨o, h⟩, rfl, rfl, rfl, Nat.le_refl _, fun _ _ _ => rfl⟩

theorem Mv.trans {ρ ρ1 ρ2 : Rho} {g g1 g2 : Gt} {n n1 n2 : Id} {w w1 w2 : World} (h : Mv ρ g n w ρ1 g1 n1 w1) (k : Mv ρ1 g1 n1 w1 ρ2 g2 n2 w2) : Mv ρ g n w ρ2 g2 n2 w2 where
  ext := h.ext.trans k.ext
  up := Nat.le_trans h.up k.up
  new := by
    intro r L h0 h2
    cases h1 : ρ1 r with
    | some L1 =>
      have := k.ext r L1 h1
      rw [h2] at this
      cases this
      exact h.new r L h0 h1
    | none =>
      obtain ⟨ha, hb⟩ := k.new r L h1 h2
      refine ⟨Nat.le_trans h.up ha, ?_⟩
      rcases hb with hb | ⟨r0, o0, L0, hg, hr, hro, hbl⟩
      · exact .inl (Nat.le_trans h.size hb)
      · cases h00 : ρ r0 with
        | some L0' =>
          have := h.ext r0 L0' h00
          rw [hr] at this
          cases this
          obtain ⟨o, ho⟩ := h.rows r0 o0 L0 hg h00
          exact .inr ⟨r0, o, L0, ho, h00, hro, hbl⟩
        | none =>
          obtain ⟨_, hc⟩ := h.new r0 L0 h00 hr
          rcases hc with hc | ⟨r1, o1, L1, h3, h4, h5, h6⟩
          · exact .inl (hbl ▸ hc)
          · exact .inr ⟨r1, o1, L1, h3, h4, h5, h6.trans hbl⟩
  rows := fun r o L h2 h0 => let ⟨o1, h1⟩ := k.rows r o L h2 (h.ext _ _ h0); h.rows r o1 L h1 h0
  os := k.os.trans h.os
  tape := k.tape.trans h.tape
  output := k.output.trans h.output
  size := Nat.le_trans h.size k.size
  block := by
    intro b hb hn
    rw [k.block b (Nat.lt_of_lt_of_le hb h.size) ?_, h.block b hb hn]
    intro r o L h1 hr hro heq
    cases h0 : ρ r with
    | some L0 =>
      have := h.ext r L0 h0
      rw [hr] at this
      cases this
      obtain ⟨o0, hg⟩ := h.rows r o L h1 h0
      exact hn r o0 L hg h0 hro heq
    | none =>
      obtain ⟨_, hc⟩ := h.new r L h0 hr
      rcases hc with hc | ⟨r0, o0, L0, h3, h4, h5, h6⟩
      · omega
      · exact hn r0 o0 L0 h3 h4 h5 (h6.trans heq)

/-- Fewer rows. -/
theorem R.sub {g g' : Gt} {nx : Id} {w : World} (h : R val ρ g nx w) (hs : ∀ r o, g' r = some o → g r = some o) : R val ρ g' nx w where
  ob := fun r o k => h.ob r o (hs r o k)
  ap := fun r r' o o' L L' k k' => h.ap r r' o o' L L' (hs _ _ k) (hs _ _ k')
  fr := h.fr
theorem R.next {g : Gt} {nx nx' : Id} {w : World} (h : R val ρ g nx w) (hn : num nx ≤ num nx') : R val ρ g nx' w where
  ob := h.ob
  ap := h.ap
  fr := fun r k => h.fr r (Nat.le_trans hn k)
theorem R.drawn {g : Gt} {nx : Id} {w w' : World} (h : R val ρ g nx w) (hh : w'.heap = w.heap) : R val ρ g nx w' where
  ob := fun r o k => by rw [hh]; exact h.ob r o k
  ap := h.ap
  fr := h.fr

/-- THE FRAME: rows that a step did not have stay as they are. -/
theorem R.frame {ρ ρ' : Rho} {k g' p : Gt} {nx nx' : Id} {w w' : World} (h : R val ρ (fun r => (k r).or (p r)) nx w) (hk : ∀ r o, p r = some o → k r = none)
    (hw : ∀ r o L, p r = some o → ρ r = some L → L.ro = false) (m : Mv ρ k nx w ρ' g' nx' w') (h' : R val ρ' g' nx' w') :
    R val ρ' (fun r => (g' r).or (p r)) nx' w' := by
  have hp : ∀ r o, p r = some o → ∃ L, ρ r = some L ∧ ObR val ρ L w.heap o ∧ w'.heap[L.blk]? = w.heap[L.blk]? := by
    intro r o ho
    obtain ⟨L, hL, hO⟩ := h.ob r o (by simp [hk r o ho, ho])
    refine ⟨L, hL, hO, m.block L.blk hO.lt ?_⟩
    intro r1 o1 L1 h1 hL1 hro heq
    have hne : r1 ≠ r := by rintro rfl; rw [hk _ o ho] at h1; cases h1
    have := h.ap r1 r o1 o L1 L (by simp [h1]) (by simp [hk r o ho, ho]) hne hL1 hL heq
    rw [hro] at this
    cases this.1
  refine ⟨?_, ?_, h'.fr⟩
  · intro r o ho
    cases hg : g' r with
    | some o' => simp [hg] at ho; subst ho; exact h'.ob r _ hg
    | none =>
      simp [hg] at ho
      obtain ⟨L, hL, hO, hb⟩ := hp r o ho
      exact ⟨L, m.ext _ _ hL, hO.mono m.ext hb⟩
  · -- a row that stayed, and one of the step's
    have mix : ∀ r r' o o' L L', g' r = some o → p r' = some o' → r ≠ r' → ρ' r = some L → ρ' r' = some L' → L.blk = L'.blk → False := by
      intro r r' o o' L L' hg hp' hne hL hL' heq
      obtain ⟨L1, hL1, hO1, hb1⟩ := hp r' o' hp'
      have : L1 = L' := by have := m.ext _ _ hL1; rw [hL'] at this; cases this; rfl
      subst this
      have hw' := hw r' o' L1 hp' hL1
      cases h0 : ρ r with
      | some L0 =>
        have := m.ext _ _ h0
        rw [hL] at this
        cases this
        obtain ⟨o0, h00⟩ := m.rows r o L hg h0
        have := h.ap r r' o0 o' L L1 (by simp [h00]) (by simp [hk _ _ hp', hp']) hne h0 hL1 heq
        rw [hw'] at this
        cases this.2
      | none =>
        obtain ⟨_, hc⟩ := m.new r L h0 hL
        rcases hc with hc | ⟨r0, o0, L0, h3, h4, h5, h6⟩
        · have := hO1.lt; omega
        · have hne' : r0 ≠ r' := by rintro rfl; rw [hk _ _ hp'] at h3; cases h3
          have := h.ap r0 r' o0 o' L0 L1 (by simp [h3]) (by simp [hk _ _ hp', hp']) hne' h4 hL1 (h6.trans heq)
          rw [h5] at this
          cases this.1
    intro r r' o o' L L' ho ho' hne hL hL' heq
    cases hg : g' r with
    | some q =>
      cases hg' : g' r' with
      | some q' => exact h'.ap r r' q q' L L' hg hg' hne hL hL' heq
      | none => simp [hg'] at ho'; exact (mix r r' q o' L L' hg ho' hne hL hL' heq).elim
    | none =>
      simp [hg] at ho
      cases hg' : g' r' with
      | some q' => exact (mix r' r q' o L' L hg' ho (Ne.symm hne) hL' hL heq.symm).elim
      | none =>
        simp [hg'] at ho'
        obtain ⟨L1, hL1, _, _⟩ := hp r o ho
        obtain ⟨L2, hL2, _, _⟩ := hp r' o' ho'
        have e1 := m.ext _ _ hL1
        have e2 := m.ext _ _ hL2
        rw [hL] at e1
        rw [hL'] at e2
        cases e1
        cases e2
        exact h.ap r r' o o' L L' (by simp [hk _ _ ho, ho]) (by simp [hk _ _ ho', ho']) hne hL1 hL2 heq

/-- A word told of one name more. -/
def upd {β : Type} (f : Id → Option β) (r : Id) (x : β) : Id → Option β := fun k => if k = r then some x else f k
theorem upd_self {β : Type} (f : Id → Option β) (r : Id) (x : β) : upd f r x r = some x := by simp [upd]
theorem upd_ne {β : Type} {f : Id → Option β} {r k : Id} {x : β} (h : k ≠ r) : upd f r x k = f k := by simp [upd, h]
theorem Ext.upd {ρ : Rho} {r : Id} {L : Loc} (h : ρ r = none) : Ext ρ (upd ρ r L) := by
  intro k K hk
  rw [upd_ne (by rintro rfl; rw [h] at hk; cases hk)]
  exact hk
theorem Hp.get_put (h : Hp) (r : Id) (x : Ob) : (h.put r x).get = Ev.upd h.get r x := by
  funext k
  show (h.o.set r x).get k = _
  rw [Tr.get_set]; rfl
theorem Hp.get_new (h : Hp) (x : Ob) : (h.new x).get = Ev.upd h.get h.next x := by
  funext k
  show (h.o.set h.next x).get k = _
  rw [Tr.get_set]; rfl
def rem (g : Gt) (r : Id) : Gt := fun k => if k = r then none else g k
theorem Hp.get_del (h : Hp) (r : Id) : (h.del r).get = rem h.get r := by
  funext k
  show (h.o.del r).get k = _
  rw [Tr.get_del]; rfl

/-- A world with one block written over. -/
structure Wrote (w : World) (b : Nat) (w' : World) : Prop where
  size : w'.heap.size = w.heap.size
  other : ∀ i, i ≠ b → w'.heap[i]? = w.heap[i]?
  os : w'.os = w.os
  tape : w'.tape = w.tape
  output : w'.output = w.output
/-- A world with one block more. -/
structure Grew (w w' : World) : Prop where
  size : w'.heap.size = w.heap.size + 1
  other : ∀ i, i < w.heap.size → w'.heap[i]? = w.heap[i]?
  os : w'.os = w.os
  tape : w'.tape = w.tape
  output : w'.output = w.output

theorem R.put {g : Gt} {nx : Id} {w w' : World} {r : Id} {o o' : Ob} {L : Loc} (h : R val ρ g nx w) (hg : g r = some o) (hL : ρ r = some L) (hro : L.ro = false) (hw : Wrote w L.blk w') (hO : ObR val ρ L w'.heap o') :
    R val ρ (Ev.upd g r o') nx w' ∧ Mv ρ g nx w ρ (Ev.upd g r o') nx w' := by
  refine ⟨⟨?_, ?_, h.fr⟩, ⟨Ext.refl _, Nat.le_refl _, fun k K h1 h2 => (by rw [h1] at h2; cases h2), ?_, hw.os, hw.tape, hw.output, Nat.le_of_eq hw.size.symm, ?_⟩⟩
  · intro k x hk
    by_cases e : k = r
    · subst e
      rw [upd_self] at hk
      cases hk
      exact ⟨L, hL, hO⟩
    · rw [upd_ne e] at hk
      obtain ⟨K, hK, hOb⟩ := h.ob k x hk
      refine ⟨K, hK, hOb.mono (Ext.refl _) (hw.other _ ?_)⟩
      intro hb
      have := h.ap k r x o K L hk hg e hK hL hb
      rw [hro] at this
      cases this.2
  · intro k k' x x' K K' hk hk' hne hK hK' hb
    have old : ∀ j y, Ev.upd g r o' j = some y → ∃ y', g j = some y' := by
      intro j y hj
      by_cases e : j = r
      · subst e; exact ⟨o, hg⟩
      · rw [upd_ne e] at hj; exact ⟨y, hj⟩
    obtain ⟨y, hy⟩ := old k x hk
    obtain ⟨y', hy'⟩ := old k' x' hk'
    exact h.ap k k' y y' K K' hy hy' hne hK hK' hb
  · intro k x K hk _
    by_cases e : k = r
    · subst e; exact ⟨o, hg⟩
    · rw [upd_ne e] at hk; exact ⟨x, hk⟩
  · intro b hb hn
    exact hw.other b fun e => hn r o L hg hL hro e.symm

theorem R.alloc {g : Gt} {n1 n2 id : Id} {w w' : World} {o : Ob} {L : Loc} (h : R val ρ g n1 w) (hid : ρ id = none) (hlt : num id < num n2) (hle : num n1 ≤ num n2) (hw : Grew w w') (hb : L.blk = w.heap.size)
    (hO : ObR val (Ev.upd ρ id L) L w'.heap o) : R val (Ev.upd ρ id L) (Ev.upd g id o) n2 w' := by
  have hx : Ext ρ (Ev.upd ρ id L) := Ext.upd hid
  have old : ∀ k x K, k ≠ id → g k = some x → (Ev.upd ρ id L) k = some K → ρ k = some K ∧ K.blk < w.heap.size := by
    intro k x K hne hk hK
    rw [upd_ne hne] at hK
    obtain ⟨K', hK', hOb⟩ := h.ob k x hk
    rw [hK] at hK'
    cases hK'
    exact ⟨hK, hOb.lt⟩
  refine ⟨?_, ?_, ?_⟩
  · intro k x hk
    by_cases e : k = id
    · subst e; rw [upd_self] at hk; cases hk; exact ⟨L, upd_self _ _ _, hO⟩
    · rw [upd_ne e] at hk
      obtain ⟨K, hK, hOb⟩ := h.ob k x hk
      exact ⟨K, hx _ _ hK, hOb.mono hx (hw.other _ hOb.lt)⟩
  · intro k k' x x' K K' hk hk' hne hK hK' heq
    by_cases e : k = id
    · have e' : k' ≠ id := fun q => hne (e.trans q.symm)
      rw [upd_ne e'] at hk'
      obtain ⟨_, h2⟩ := old k' x' K' e' hk' hK'
      rw [e, upd_self] at hK
      cases hK
      omega
    · rw [upd_ne e] at hk
      obtain ⟨h1, h2⟩ := old k x K e hk hK
      by_cases e' : k' = id
      · rw [e', upd_self] at hK'
        cases hK'
        omega
      · rw [upd_ne e'] at hk'
        obtain ⟨h3, _⟩ := old k' x' K' e' hk' hK'
        exact h.ap k k' x x' K K' hk hk' hne h1 h3 heq
  · intro k hk
    rw [upd_ne (by rintro rfl; omega)]
    exact h.fr k (Nat.le_trans hle hk)
theorem Mv.alloc {g : Gt} {nx nx' id : Id} {w w' : World} {o : Ob} {L : Loc} (hid : ρ id = none) (hn : num nx ≤ num id) (hle : num nx ≤ num nx') (hw : Grew w w') (hb : L.blk = w.heap.size) : Mv ρ g nx w (Ev.upd ρ id L) (Ev.upd g id o) nx' w' where
  ext := Ext.upd hid
  up := hle
  new := by
    intro k K h1 h2
    by_cases e : k = id
    · rw [e, upd_self] at h2; cases h2; exact ⟨e ▸ hn, .inl (by omega)⟩
    · rw [upd_ne e] at h2; rw [h1] at h2; cases h2
  rows := by
    intro k x K hk hK
    by_cases e : k = id
    · rw [e, hid] at hK; cases hK
    · rw [upd_ne e] at hk; exact ⟨x, hk⟩
  os := hw.os
  tape := hw.tape
  output := hw.output
  size := by rw [hw.size]; omega
  block := fun b hb' _ => hw.other b hb'
/-- nothing but draws -/
theorem Mv.drawn {g : Gt} {nx : Id} {w w' : World} (hh : w'.heap = w.heap) (ho : w'.os = w.os) (ht : w'.tape = w.tape) (hp : w'.output = w.output) : Mv ρ g nx w ρ g nx w' where
  ext := Ext.refl _
  up := Nat.le_refl _
  new := fun r L h h' => (by rw [h] at h'; cases h')
  rows := fun r o _ h _ => ⟨o, h⟩
  os := ho
  tape := ht
  output := hp
  size := by rw [hh]; exact Nat.le_refl _
  block := fun _ _ _ => by rw [hh]
/-- A row under a new name: the elder name is gone. -/
theorem R.rename {g : Gt} {n1 n2 id r : Id} {w w' : World} {o o' : Ob} {L L' : Loc} (h : R val ρ g n1 w) (hid : ρ id = none) (hlt : num id < num n2) (hle : num n1 ≤ num n2) (hg : g r = some o) (hL : ρ r = some L) (hro : L.ro = false)
    (hw : Wrote w L.blk w') (hb : L'.blk = L.blk) (hO : ObR val (Ev.upd ρ id L') L' w'.heap o') : R val (Ev.upd ρ id L') (Ev.upd (rem g r) id o') n2 w' := by
  have hx : Ext ρ (Ev.upd ρ id L') := Ext.upd hid
  have old : ∀ k x, k ≠ id → Ev.upd (rem g r) id o' k = some x → k ≠ r ∧ g k = some x := by
    intro k x hne hk
    rw [upd_ne hne] at hk
    unfold rem at hk
    split at hk
    · cases hk
    · exact ⟨‹_›, hk⟩
  have far : ∀ k x K, k ≠ id → Ev.upd (rem g r) id o' k = some x → ρ k = some K → K.blk ≠ L.blk := by
    intro k x K hne hk hK heq
    obtain ⟨h1, h2⟩ := old k x hne hk
    have := h.ap k r x o K L h2 hg h1 hK hL heq
    rw [hro] at this
    cases this.2
  refine ⟨?_, ?_, ?_⟩
  · intro k x hk
    by_cases e : k = id
    · subst e; rw [upd_self] at hk; cases hk; exact ⟨L', upd_self _ _ _, hO⟩
    · obtain ⟨h1, h2⟩ := old k x e hk
      obtain ⟨K, hK, hOb⟩ := h.ob k x h2
      exact ⟨K, hx _ _ hK, hOb.mono hx (hw.other _ (far k x K e hk hK))⟩
  · intro k k' x x' K K' hk hk' hne hK hK' heq
    by_cases e : k = id
    · have e' : k' ≠ id := fun q => hne (e.trans q.symm)
      rw [e, upd_self] at hK
      cases hK
      rw [upd_ne e'] at hK'
      exact absurd (heq.symm.trans hb) (far k' x' K' e' hk' hK')
    · obtain ⟨h1, h2⟩ := old k x e hk
      rw [upd_ne e] at hK
      by_cases e' : k' = id
      · rw [e', upd_self] at hK'
        cases hK'
        exact absurd (heq.trans hb) (far k x K e hk hK)
      · obtain ⟨h3, h4⟩ := old k' x' e' hk'
        rw [upd_ne e'] at hK'
        exact h.ap k k' x x' K K' h2 h4 hne hK hK' heq
  · intro k hk
    rw [upd_ne (by rintro rfl; omega)]
    exact h.fr k (Nat.le_trans hle hk)
theorem Mv.rename {g : Gt} {nx nx' id r : Id} {w w' : World} {o o' : Ob} {L L' : Loc} (hid : ρ id = none) (hn : num nx ≤ num id) (hle : num nx ≤ num nx') (hg : g r = some o) (hL : ρ r = some L) (hro : L.ro = false) (hw : Wrote w L.blk w')
    (hb : L'.blk = L.blk) : Mv ρ g nx w (Ev.upd ρ id L') (Ev.upd (rem g r) id o') nx' w' where
  ext := Ext.upd hid
  up := hle
  new := by
    intro k K h1 h2
    by_cases e : k = id
    · rw [e, upd_self] at h2; cases h2; exact ⟨e ▸ hn, .inr ⟨r, o, L, hg, hL, hro, hb.symm⟩⟩
    · rw [upd_ne e] at h2; rw [h1] at h2; cases h2
  rows := by
    intro k x K hk hK
    by_cases e : k = id
    · rw [e, hid] at hK; cases hK
    · rw [upd_ne e] at hk
      unfold rem at hk
      split at hk
      · cases hk
      · exact ⟨x, hk⟩
  os := hw.os
  tape := hw.tape
  output := hw.output
  size := by rw [hw.size]; exact Nat.le_refl _
  block := fun b _ hn => hw.other b fun e => hn r o L hg hL hro e.symm
theorem Mv.next {g g' : Gt} {nx nx' nx2 : Id} {w w' : World} (m : Mv ρ g nx w ρ' g' nx' w') (hn : num nx' ≤ num nx2) : Mv ρ g nx w ρ' g' nx2 w' := { m with up := Nat.le_trans m.up hn }
/-- Fewer rows behind a step. -/
theorem Mv.sub {g g' g'' : Gt} {nx nx' : Id} {w w' : World} (m : Mv ρ g nx w ρ' g' nx' w') (hs : ∀ r o, g'' r = some o → g' r = some o) : Mv ρ g nx w ρ' g'' nx' w' :=
  { m with rows := fun r o L h k => m.rows r o L (hs r o h) k }
end Go.Ev
