/- What a function tells of fixed arguments: its answer and the new memory, under other names. -/
import Derived.Test.YtgchblfkmgnaeaaGreatDoorEv3
set_option linter.unusedVariables false
set_option linter.unusedSimpArgs false
set_option linter.unusedSectionVars false
namespace Go.Ev

variable {P : Program} {val : Nat → Value} {ρ : Rho}

/-- the sum of two names' numbers -/
noncomputable def addId (r : Id) : Id → Id := List.rec (motive := fun _ => Id → Id) (fun s => s)
  (fun a l ih s => List.casesOn s (a :: l) (fun b m => Bool.rec (Bool.rec (true :: ih m) (false :: inc (ih m)) b) (Bool.rec (false :: inc (ih m)) (true :: inc (ih m)) b) a)) r
theorem num_addId : ∀ r s : Id, num (addId r s) = num r + num s
  | [], s => by show num s = num [] + num s; simp [num]
  | a :: l, [] => by show num (a :: l) = num (a :: l) + num []; simp [num]
  | a :: l, b :: m => by
    have ih := num_addId l m
    cases a <;> cases b
    · show num (true :: addId l m) = _
      simp [num, ih]; omega
    · show num (false :: inc (addId l m)) = _
      simp [num, num_inc, ih]; omega
    · show num (false :: inc (addId l m)) = _
      simp [num, num_inc, ih]; omega
    · show num (true :: inc (addId l m)) = _
      simp [num, num_inc, ih]; omega

/-! Other names. -/
mutual
def mapAV (f : Id → Id) : AV → AV
  | .ptr r o => .ptr (f r) o
  | .slc r a b c d => .slc (f r) a b c d
  | .agg l => .agg (mapAVs f l)
  | .map r => .map (f r)
  | .fn i a c => .fn i (mapAVs f a) (mapAVs f c)
  | .tup l => .tup (mapAVs f l)
  | .iface t v => .iface t (mapAV f v)
  | x => x
def mapAVs (f : Id → Id) : List AV → List AV
  | [] => []
  | a :: l => mapAV f a :: mapAVs f l
end
def mapEs (f : Id → Id) (l : List Ent) : List Ent := l.map fun e => (mapAV f e.1, mapAV f e.2.1, e.2.2)
def mapOb (f : Id → Id) : Ob → Ob
  | .row ro cs => .row ro (mapAVs f cs)
  | .mp es c => .mp (mapEs f es) c
  | .mit m a s l => .mit (m.map f) a s l

section
variable {ρ1 ρ2 : Rho} {f g : Id → Id} (hf : ∀ r L, ρ1 (f r) = some L → ρ2 (g r) = some L)
include hf
mutual
theorem V_ren : ∀ (a : AV) (v : Value), V val ρ1 (mapAV f a) v → V val ρ2 (mapAV g a) v
  | .int k n, v, h => by simpa [mapAV, V] using h
  | .bool b, v, h => by simpa [mapAV, V] using h
  | .ptr r off, v, h => by simp only [mapAV, V] at h ⊢; obtain ⟨L, h1, h2⟩ := h; exact ⟨L, hf _ _ h1, h2⟩
  | .slc r off len sz cap, v, h => by simp only [mapAV, V] at h ⊢; obtain ⟨L, a, c, h1, h2⟩ := h; exact ⟨L, a, c, hf _ _ h1, h2⟩
  | .str n l, v, h => by simpa [mapAV, V] using h
  | .agg l, v, h => by simp only [mapAV, V] at h ⊢; obtain ⟨a, h1, h2⟩ := h; exact ⟨a, h1, Vs_ren l _ h2⟩
  | .nul k, v, h => by simpa [mapAV, V] using h
  | .map r, v, h => by simp only [mapAV, V] at h ⊢; obtain ⟨L, h1, h2⟩ := h; exact ⟨L, hf _ _ h1, h2⟩
  | .fn i a c, v, h => by simp only [mapAV, V] at h ⊢; obtain ⟨x, y, h1, h2, h3⟩ := h; exact ⟨x, y, h1, Vs_ren a _ h2, Vs_ren c _ h3⟩
  | .tup l, v, h => by simp only [mapAV, V] at h ⊢; obtain ⟨a, h1, h2⟩ := h; exact ⟨a, h1, Vs_ren l _ h2⟩
  | .iface t x, v, h => by simp only [mapAV, V] at h ⊢; obtain ⟨y, h1, h2⟩ := h; exact ⟨y, h1, V_ren x y h2⟩
  | .coin, v, h => by simpa [mapAV, V] using h
  | .opq i, v, h => by simpa [mapAV, V] using h
theorem Vs_ren : ∀ (l : List AV) (m : List Value), Vs val ρ1 (mapAVs f l) m → Vs val ρ2 (mapAVs g l) m
  | [], m, h => by simp only [mapAVs] at h ⊢; rw [Vs_nil_iff] at h ⊢; exact h
  | a :: l, m, h => by
    simp only [mapAVs] at h ⊢
    obtain ⟨v, r, h1, h2, h3⟩ := Vs_cons_iff.1 h
    exact Vs_cons_iff.2 ⟨v, r, h1, V_ren a v h2, Vs_ren l r h3⟩
end
theorem Es_ren : ∀ (l : List Ent) (m : List MapEntry), Es val ρ1 (mapEs f l) m → Es val ρ2 (mapEs g l) m
  | [], m, h => h
  | e :: l, m, h => by
    obtain ⟨x, r, h1, h2, h3, h4, h5⟩ := h
    exact ⟨x, r, h1, V_ren hf _ _ h2, V_ren hf _ _ h3, h4, Es_ren l r h5⟩
omit hf in
theorem mapAVs_eq (f : Id → Id) : ∀ l : List AV, mapAVs f l = l.map (mapAV f)
  | [] => rfl
  | a :: l => by simp only [mapAVs, List.map_cons]; rw [mapAVs_eq f l]
theorem ObR_ren {L : Loc} {heap : Array Obj} : ∀ {o : Ob}, ObR val ρ1 L heap (mapOb f o) → ObR val ρ2 L heap (mapOb g o)
  | .row ro cs, h => by
    obtain ⟨h0, c, e, fr, h1, h2, h3, h4, h5⟩ := h
    refine ⟨h0, c, e, fr, h1, h2, by simpa [mapAVs_eq] using h3, fun i a hi => ?_, h5⟩
    rw [mapAVs_eq, List.getElem?_map] at hi
    cases hc : cs[i]? with
    | none => rw [hc] at hi; cases hi
    | some b =>
      rw [hc] at hi
      cases hi
      obtain ⟨v, hv, hV⟩ := h4 i (mapAV f b) (by rw [mapAVs_eq, List.getElem?_map, hc]; rfl)
      exact ⟨v, hv, V_ren hf _ _ hV⟩
  | .mp es clock, h => by
    obtain ⟨h0, a, h1, h2⟩ := h
    exact ⟨h0, a, h1, Es_ren hf _ _ h2⟩
  | .mit m since seen last, h => by
    obtain ⟨h0, hsh, m', h1, h2, h3⟩ := h
    refine ⟨h0, hsh, m', h1, fun hm => h2 (by cases m <;> simp_all), fun r hr => ?_⟩
    cases m with
    | none => cases hr
    | some r0 =>
      cases hr
      obtain ⟨L', h4, h5⟩ := h3 (f r0) rfl
      exact ⟨L', hf _ _ h4, h5⟩
end

/-! A function that tells this of these arguments. -/
noncomputable def setAll (n : Id) (rows : List (Id × Ob)) (o : Tr Ob) : Tr Ob := List.rec o (fun p _ t => t.set (addId n p.1) (mapOb (addId n) p.2)) rows
theorem setAll_cons (n : Id) (p : Id × Ob) (rows : List (Id × Ob)) (o : Tr Ob) (r : Id) : (setAll n (p :: rows) o).get r = if r = addId n p.1 then some (mapOb (addId n) p.2) else (setAll n rows o).get r := by
  show ((setAll n rows o).set (addId n p.1) (mapOb (addId n) p.2)).get r = _
  rw [Tr.get_set]
theorem setAll_get {n : Id} {o : Tr Ob} {r : Id} : ∀ {rows : List (Id × Ob)}, (∃ p ∈ rows, r = addId n p.1 ∧ (setAll n rows o).get r = some (mapOb (addId n) p.2)) ∨ ((∀ p ∈ rows, r ≠ addId n p.1) ∧ (setAll n rows o).get r = o.get r)
  | [] => .inr ⟨fun p h => by simp at h, rfl⟩
  | p :: rows => by
    rw [setAll_cons]
    by_cases e : r = addId n p.1
    · rw [if_pos e]; exact .inl ⟨p, by simp, e, rfl⟩
    · rw [if_neg e]
      rcases setAll_get (n := n) (o := o) (r := r) (rows := rows) with ⟨q, h1, h2⟩ | ⟨h1, h2⟩
      · exact .inl ⟨q, by simp [h1], h2⟩
      · refine .inr ⟨fun q hq => ?_, h2⟩
        rcases List.mem_cons.1 hq with rfl | hq
        · exact e
        · exact h1 q hq
structure Snap where
  args : List AV
  v : AV
  rows : List (Id × Ob)
  size : Id
noncomputable def snapF (g : Id) (tab : Ob) (s : Snap) : List AV → Hp → Option (AV × Hp) := fun as h =>
  Bool.rec none (Bool.rec none (some (mapAV (addId h.next) s.v, ⟨setAll h.next s.rows h.o, addId h.next s.size⟩)) (optEq obEq (h.get g) (some tab))) (allEq oneEq s.args as)
noncomputable def snap (f0 : Nat) (g : Id) (tab : Ob) (s : Snap) : Sum := fun f => Bool.rec none (some (snapF g tab s)) (Nat.beq f f0)
noncomputable def snapOk (b0 : Id) (s : Snap) (r : Option (AV × Hp)) : Bool := match r with
  | some (v, h) => avBeq v (mapAV (addId b0) s.v) && idEq h.next (addId b0 s.size) && s.rows.all fun p => optEq obEq (h.get (addId b0 p.1)) (some (mapOb (addId b0) p.2))
  | none => false

theorem snap_ok {cf : CallF} {f0 : Nat} {g b0 : Id} {tcs : List AV} {s : Snap} (hC : CallOk P val cf) (hrun : snapOk b0 s (cf f0 s.args ⟨Tr.set .nil g (.row true tcs), b0⟩) = true) (hg : num g < num b0) (hgl : P.globals.size ≤ num b0) (htab : tcs.all plainAV = true)
    (has : s.args.all plainAV = true) : SumOk P val (snap f0 g (.row true tcs) s) := by
  intro f sf hs as h v h' hm ρ args w hG hV hR
  have hf : f = f0 ∧ sf = snapF g (.row true tcs) s := by
    unfold snap at hs
    cases hb : Nat.beq f f0 with
    | false => rw [hb] at hs; cases hs
    | true => rw [hb] at hs; cases hs; exact ⟨Nat.eq_of_beq_eq_true hb, rfl⟩
  obtain ⟨rfl, rfl⟩ := hf
  obtain ⟨h1, hm⟩ := brec_true hm
  obtain ⟨h2, hm⟩ := brec_true hm
  cases hm
  have has := allEq_eq (fun _ _ => oneEq_eq) h1
  subst has
  have hgt := optEq_iff (fun _ _ => obEq_eq) h2
  cases hc : cf f s.args ⟨Tr.set .nil g (.row true tcs), b0⟩ with
  | none => rw [hc] at hrun; cases hrun
  | some p =>
    obtain ⟨pv, ph⟩ := p
    rw [hc] at hrun
    simp only [snapOk, Bool.and_eq_true, List.all_eq_true] at hrun
    obtain ⟨⟨k1, k2⟩, k3⟩ := hrun
    have k1 := avBeq_eq k1
    subst k1
    have k2 := (idEq_iff _ _).1 k2
    refine (small_call hC hc hg hgl htab has hgt hG hV hR).mono ?_
    rintro u w' ⟨ρ1, hu, hR', hold, hnew, hos, htp, hout, hsz⟩
    let ρ2 : Rho := fun r => if num r < num h.next then ρ r else ρ1 (pth (num b0 + (num r - num h.next)))
    have hlow : ∀ r, num r < num h.next → ρ2 r = ρ r := fun r h => if_pos h
    have hhi : ∀ r, ρ2 (addId h.next r) = ρ1 (addId b0 r) := by
      intro r
      show (if num (addId h.next r) < num h.next then _ else _) = _
      rw [num_addId, if_neg (by omega)]
      congr 1
      apply num_inj
      rw [num_pth, num_addId]
      omega
    have hmap : ∀ r L, ρ1 (addId b0 r) = some L → ρ2 (addId h.next r) = some L := fun r L hL => by rw [hhi]; exact hL
    have hsome : ∀ r L, ρ r = some L → num r < num h.next := by
      intro r L hL
      rcases Nat.lt_or_ge (num r) (num h.next) with h1 | h1
      · exact h1
      · rw [hR.fr r h1] at hL; cases hL
    have hx : Ext ρ ρ2 := fun r L hL => by rw [hlow r (hsome r L hL)]; exact hL
    have hrow : ∀ q ∈ s.rows, ∃ L, ρ2 (addId h.next q.1) = some L ∧ ρ1 (addId b0 q.1) = some L ∧ ph.get (addId b0 q.1) = some (mapOb (addId b0) q.2) ∧ ObR val ρ2 L w'.heap (mapOb (addId h.next) q.2) ∧ w.heap.size ≤ L.blk := by
      intro q hq
      have hgq := optEq_iff (fun _ _ => obEq_eq) (k3 q hq)
      obtain ⟨L, hL, hO⟩ := hR'.ob _ _ hgq
      exact ⟨L, hmap _ _ hL, hL, hgq, ObR_ren hmap hO, hnew _ _ (by rw [num_addId]; omega) hL⟩
    have hold' : ∀ r o, h.get r = some o → ∃ L, ρ r = some L ∧ ρ2 r = some L ∧ ObR val ρ2 L w'.heap o ∧ L.blk < w.heap.size ∧ num r < num h.next := by
      intro r o ho
      obtain ⟨L, hL, hO⟩ := hR.ob r o ho
      exact ⟨L, hL, hx _ _ hL, hO.mono hx (hold _ hO.lt), hO.lt, hsome r L hL⟩
    have cases' : ∀ r o, (Hp.mk (setAll h.next s.rows h.o) (addId h.next s.size)).get r = some o → (∃ q ∈ s.rows, r = addId h.next q.1 ∧ o = mapOb (addId h.next) q.2) ∨ (h.get r = some o) := by
      intro r o ho
      have ho : (setAll h.next s.rows h.o).get r = some o := ho
      rcases setAll_get (n := h.next) (o := h.o) (r := r) (rows := s.rows) with ⟨q, hq, e1, e2⟩ | ⟨_, e2⟩
      · rw [ho] at e2; cases e2; exact .inl ⟨q, hq, e1, rfl⟩
      · rw [ho] at e2; exact .inr e2.symm
    refine ⟨ρ2, V_ren hmap _ _ hu, ⟨?_, ?_, ?_⟩, ⟨hx, ?_, ?_, ?_, hos, htp, hout, hsz, fun b hb _ => hold b hb⟩⟩
    · intro r o ho
      rcases cases' r o ho with ⟨q, hq, rfl, rfl⟩ | ho
      · obtain ⟨L, g1, _, _, g3, _⟩ := hrow q hq
        exact ⟨L, g1, g3⟩
      · obtain ⟨L, _, g2, g3, _⟩ := hold' r o ho
        exact ⟨L, g2, g3⟩
    · intro r r' o o' K K' ho ho' hne hK hK' heq
      rcases cases' r o ho with ⟨q, hq, rfl, rfl⟩ | ho
      · obtain ⟨L, g1, g2, g3, _, g5⟩ := hrow q hq
        rw [g1] at hK
        cases hK
        rcases cases' r' o' ho' with ⟨q', hq', rfl, rfl⟩ | ho'
        · obtain ⟨L', e1, e2, e3, _, e5⟩ := hrow q' hq'
          rw [e1] at hK'
          cases hK'
          refine hR'.ap _ _ _ _ _ _ g3 e3 (fun e => hne ?_) g2 e2 heq
          have := congrArg num e
          rw [num_addId, num_addId] at this
          apply num_inj
          rw [num_addId, num_addId]
          omega
        · obtain ⟨L', _, e2, _, e4, _⟩ := hold' r' o' ho'
          rw [e2] at hK'
          cases hK'
          omega
      · obtain ⟨L, g1, g2, _, g4, _⟩ := hold' r o ho
        rw [g2] at hK
        cases hK
        rcases cases' r' o' ho' with ⟨q', hq', rfl, rfl⟩ | ho'
        · obtain ⟨L', e1, _, _, _, e5⟩ := hrow q' hq'
          rw [e1] at hK'
          cases hK'
          omega
        · obtain ⟨L', e1, e2, _, _, _⟩ := hold' r' o' ho'
          rw [e2] at hK'
          cases hK'
          exact hR.ap r r' o o' _ _ ho ho' hne g1 e1 heq
    · intro r hr
      have hr : num (addId h.next s.size) ≤ num r := hr
      rw [num_addId] at hr
      show (if num r < num h.next then _ else _) = _
      rw [if_neg (by omega)]
      refine hR'.fr _ ?_
      rw [k2, num_addId, num_pth]
      omega
    · show num h.next ≤ num (addId h.next s.size)
      rw [num_addId]; omega
    · intro r L g1 g2
      have hge : num h.next ≤ num r := by
        rcases Nat.lt_or_ge (num r) (num h.next) with h1 | h1
        · rw [hlow r h1, g1] at g2; cases g2
        · exact h1
      refine ⟨hge, .inl ?_⟩
      have g2 : (if num r < num h.next then ρ r else ρ1 (pth (num b0 + (num r - num h.next)))) = some L := g2
      rw [if_neg (by omega)] at g2
      exact hnew _ _ (by rw [num_pth]; omega) g2
    · intro r o L g1 g2
      rcases cases' r o g1 with ⟨q, hq, rfl, rfl⟩ | ho
      · have := hsome _ _ g2
        rw [num_addId] at this
        omega
      · exact ⟨o, ho⟩
/-- two that speak of one function -/
noncomputable def altSum (s t : Sum) : Sum := fun f => Option.rec (t f) (fun x => Option.rec (some x) (fun y => some fun as h => Option.rec (y as h) (fun r => some r) (x as h)) (t f)) (s f)
theorem altSum_ok {s t : Sum} (h1 : SumOk P val s) (h2 : SumOk P val t) : SumOk P val (altSum s t) := by
  intro f z hz
  rcases orec_or (show (Option.rec (t f) (fun x => Option.rec (some x) (fun y => some fun as h => Option.rec (y as h) (fun r => some r) (x as h)) (t f)) (s f) : Option _) = some z from hz) with ⟨_, hz⟩ | ⟨x, hx, hz⟩
  · exact h2 f z hz
  · rcases orec_or hz with ⟨_, hz⟩ | ⟨y, hy, hz⟩
    · cases hz; exact h1 f _ hx
    · cases hz
      intro as h v h' hm
      rcases orec_or hm with ⟨_, hm⟩ | ⟨r, hr, hm⟩
      · exact h2 f y hy as h v h' hm
      · cases hm; exact h1 f x hx as h v h' hr
end Go.Ev
