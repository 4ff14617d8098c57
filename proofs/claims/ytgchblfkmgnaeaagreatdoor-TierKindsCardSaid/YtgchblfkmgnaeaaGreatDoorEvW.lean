/- Regions that draw their order: the walk. -/
import Derived.Test.YtgchblfkmgnaeaaGreatDoorEvV
set_option linter.unusedVariables false
set_option linter.unusedSimpArgs false
set_option linter.unusedSectionVars false
namespace Go.Ev

variable {P : Program} {val : Nat → Value} {ops : Array Oper} {N m : Nat} {t0 : T} {h0 : Hp} {st : Nat → DS} {tv : Nat → AV} {dd : Nat → Did} {ρ0 : Rho} {a0 : Act} {w0 : World}

theorem Mv.frame {ρ ρ' : Rho} {k g' p : Gt} {nx nx' : Id} {w w' : World} (m : Mv ρ k nx w ρ' g' nx' w') : Mv ρ (fun r => (k r).or (p r)) nx w ρ' (fun r => (g' r).or (p r)) nx' w' where
  ext := m.ext
  up := m.up
  new := by
    intro r L h1 h2
    obtain ⟨h3, h4⟩ := m.new r L h1 h2
    refine ⟨h3, h4.imp id ?_⟩
    rintro ⟨r0, o0, L0, k1, k2⟩
    exact ⟨r0, o0, L0, by simp [k1], k2⟩
  rows := by
    intro r o L h1 h2
    cases hg : g' r with
    | some x =>
      obtain ⟨o0, ho⟩ := m.rows r x L hg h2
      exact ⟨o0, by simp [ho]⟩
    | none =>
      simp only [hg, Option.none_or] at h1
      cases hk : k r with
      | some y => exact ⟨y, by simp⟩
      | none => exact ⟨o, by simp [h1]⟩
  os := m.os
  tape := m.tape
  output := m.output
  size := m.size
  block := fun b hb H => m.block b hb fun r o L h1 h2 => H r o L (by simp [h1]) h2
theorem Mv.low {ρ ρ' : Rho} {g g' : Gt} {nx nx' b : Id} {w w' : World} (m : Mv ρ g nx w ρ' g' nx' w') (hb : num b ≤ num nx) : Mv ρ g b w ρ' g' b w' :=
  { m with up := Nat.le_refl _, new := fun r L h1 h2 => let ⟨h3, h4⟩ := m.new r L h1 h2; ⟨Nat.le_trans hb h3, h4⟩ }
theorem Mv.more {ρ ρ' : Rho} {g g0 g' : Gt} {nx nx' : Id} {w w' : World} (m : Mv ρ g nx w ρ' g' nx' w') (hs : ∀ r o, g r = some o → g0 r = some o) : Mv ρ g0 nx w ρ' g' nx' w' :=
  { m with
    new := fun r L h1 h2 => let ⟨h3, h4⟩ := m.new r L h1 h2; ⟨h3, h4.imp id fun ⟨r0, o0, L0, k1, k2⟩ => ⟨r0, o0, L0, hs _ _ k1, k2⟩⟩
    rows := fun r o L h1 h2 => let ⟨o0, h3⟩ := m.rows r o L h1 h2; ⟨o0, hs _ _ h3⟩
    block := fun b hb H => m.block b hb fun r o L h1 h2 => H r o L (hs _ _ h1) h2 }

/-! Two stores of unlike rows. -/
theorem storeF_some {n : Nat} {vs : List AV} {h : Hp} {p : AV × Hp} (hs : storeF n vs h = some p) : ∃ r off v cs cs', vs = [.ptr r off, v] ∧ h.get r = some (.row false cs) ∧ wr cs off v.cells = some cs' ∧ p = (.tup [], h.put r (.row false cs')) := by
  obtain ⟨q, hq, hs⟩ := orec_some hs
  obtain ⟨a, ha, hs⟩ := orec_some hs
  obtain ⟨h1, h2⟩ := done_some hs
  obtain ⟨cs, hcs, h3⟩ := orec_some h1
  obtain ⟨h4, h3⟩ := brec_true h3
  obtain ⟨cs', hcs', h3⟩ := orec_some h3
  rw [asPtr_some] at ha
  refine ⟨a.1, a.2, q.2, cs, cs', ?_, mrow_some hcs, hcs', ?_⟩
  · rw [list2_some hq, ha]
  · injection h3 with h3
    exact Prod.ext h2 h3.symm
theorem storeF_beq {n : Nat} {r : Id} {off : Nat} {v : AV} {h : Hp} {p : AV × Hp} (hs : storeF n [.ptr r off, v] h = some p) : Nat.beq (lenL v.cells) n = true := by
  have e : storeF n [.ptr r off, v] h = done (storeH n h r off v) := rfl
  rw [e] at hs
  obtain ⟨h1, _⟩ := done_some hs
  obtain ⟨cs, _, h3⟩ := orec_some h1
  exact (brec_true h3).1
theorem storeF_mk {n : Nat} {r : Id} {off : Nat} {v : AV} {h : Hp} {cs cs' : List AV} (h1 : h.get r = some (.row false cs)) (h2 : wr cs off v.cells = some cs') (h3 : Nat.beq (lenL v.cells) n = true) :
    storeF n [.ptr r off, v] h = some (.tup [], h.put r (.row false cs')) := by
  have e : storeF n [.ptr r off, v] h = done (Option.rec none (fun cs => Bool.rec none (putR h r (wr cs off v.cells)) (Nat.beq (lenL v.cells) n)) (mrow? (h.get r))) := rfl
  have e1 : mrow? (some (Ob.row false cs)) = some cs := rfl
  rw [e, h1, e1]
  have e2 : done (Bool.rec none (putR h r (wr cs off v.cells)) (Nat.beq (lenL v.cells) n)) = some (.tup [], h.put r (.row false cs')) := by
    rw [h3, h2]; rfl
  exact e2
theorem put_comm {h : Hp} {r s : Id} {x y : Ob} (hne : r ≠ s) : ((h.put r x).put s y).get = ((h.put s y).put r x).get := by
  simp only [Hp.get_put]
  funext k
  unfold upd
  by_cases h1 : k = s
  · subst h1; simp [Ne.symm hne]
  · simp [h1]
theorem apart2_some {h : Hp} {n : Nat} {vs : List AV} {n' : Nat} {vs' : List AV} (ha : apart2 h n vs n' vs' = true) : ∃ q q2, storeF n' vs' h = some q ∧ storeF n vs q.2 = some q2 ∧
    ∀ r o v r' o' v', vs = [.ptr r o, v] → vs' = [.ptr r' o', v'] → r ≠ r' := by
  unfold apart2 at ha
  cases h1 : list2 vs with
  | none => rw [h1] at ha; cases ha
  | some p =>
    rw [h1] at ha
    cases h2 : list2 vs' with
    | none => simp only [h2] at ha; cases ha
    | some p' =>
      simp only [h2] at ha
      cases h3 : asPtr p.1 with
      | none => simp only [h3] at ha; cases ha
      | some a =>
        simp only [h3] at ha
        cases h4 : asPtr p'.1 with
        | none => simp only [h4] at ha; cases ha
        | some a' =>
          simp only [h4] at ha
          cases h5 : idEq a.1 a'.1 with
          | true => simp only [h5] at ha; cases ha
          | false =>
            simp only [h5] at ha
            cases h6 : storeF n' vs' h with
            | none => simp only [h6] at ha; cases ha
            | some q =>
              simp only [h6] at ha
              cases h7 : storeF n vs q.2 with
              | none => simp only [h7] at ha; cases ha
              | some q2 =>
                refine ⟨q, q2, rfl, h7, ?_⟩
                intro r o v r' o' v' e e' hrr
                subst e e'
                cases h1
                cases h2
                rw [asPtr_some] at h3 h4
                injection h3 with h3
                injection h4 with h4
                rw [← h3, ← h4, hrr, (idEq_iff r' r').2 rfl] at h5
                cases h5
theorem store_comm {h : Hp} {n1 n2 : Nat} {vs1 vs2 : List AV} {p1 p2 q1 q2 : AV × Hp} (h1 : storeF n1 vs1 h = some p1) (h2 : storeF n2 vs2 p1.2 = some p2) (h3 : storeF n2 vs2 h = some q1) (h4 : storeF n1 vs1 q1.2 = some q2)
    (hne : ∀ r o v r' o' v', vs1 = [.ptr r o, v] → vs2 = [.ptr r' o', v'] → r ≠ r') : p2.2.get = q2.2.get ∧ p2.2.next = h.next ∧ q2.2.next = h.next ∧ p1.1 = .tup [] ∧ p2.1 = .tup [] ∧ q1.1 = .tup [] ∧ q2.1 = .tup [] := by
  obtain ⟨r, o, v, c1, c1', e1, g1, k1, rfl⟩ := storeF_some h1
  obtain ⟨r', o', v', c2, c2', e2, g2, k2, rfl⟩ := storeF_some h2
  obtain ⟨r'', o'', v'', c3, c3', e3, g3, k3, rfl⟩ := storeF_some h3
  obtain ⟨s, so, sv, c4, c4', e4, g4, k4, rfl⟩ := storeF_some h4
  have hrr := hne _ _ _ _ _ _ e1 e2
  rw [e1] at e4
  rw [e2] at e3
  cases e3
  cases e4
  simp only [Hp.get_put] at g2 g4
  rw [upd_ne (Ne.symm hrr)] at g2
  rw [upd_ne hrr] at g4
  rw [g1] at g4
  rw [g2] at g3
  cases g3
  cases g4
  rw [k1] at k4
  rw [k2] at k3
  cases k3
  cases k4
  exact ⟨put_comm hrr, rfl, rfl, rfl, rfl, rfl, rfl⟩

/-! The invariant. -/
structure Slots (val : Nat → Value) (ops : Array Oper) (tv : Nat → AV) (a0 : Act) (L : Nat → Prop) (ρ : Rho) (a : Act) : Prop where
  told : ∀ k o d, L k → ops.toList[k]? = some o → o.dst = some d → V val ρ (tv k) (a.tmps.getD d undef)
  untold : ∀ d, (∀ k o, L k → ops.toList[k]? = some o → o.dst ≠ some d) → a.tmps.getD d undef = a0.tmps.getD d undef
  size : a.tmps.size = a0.tmps.size
  nodef : a.defers = []
structure Hm (P : Program) (val : Nat → Value) (ops : Array Oper) (h0 : Hp) (ρ0 : Rho) (w0 : World) (ρ : Rho) (g : Gt) (nx : Id) (w : World) : Prop where
  r : R val ρ g nx w
  mv : Mv ρ0 h0.get h0.next w0 ρ g h0.next w
  up : num h0.next + nwCount P ops.toList ≤ num nx
inductive Mem (P : Program) (val : Nat → Value) (ops : Array Oper) (h0 : Hp) (st : Nat → DS) (dd : Nat → Did) (ρ0 : Rho) (w0 : World) (L : Nat → Prop) (ρ : Rho) (w : World) : Prop
  | line (q : Nat) (hq : q ≤ ops.size) (pos : ∀ e, e < ops.size → isE (dd e) = true → (L e ↔ e < q))
      (dis : ∀ k ob, k < ops.size → L k → flt ops.toList dd q k → dd k = .new ob → (st q).h.get (st k).res = none) (hm : Hm P val ops h0 ρ0 w0 ρ (GL ops.toList ops.size st dd L q) (st q).h.next w)
  | swap (i j n1 n2 : Nat) (vs1 vs2 : List AV) (F1 F2 : Hp → Option (AV × Hp)) (o1 o2 : Hp) (q q2 : AV × Hp) (hij : i < j) (hj : j < ops.size) (di : dd i = .eff F1 o1 (some (n1, vs1))) (dj : dd j = .eff F2 o2 (some (n2, vs2))) (li : ¬ L i)
      (rest : ∀ k, k < ops.size → k ≠ i → isQ (dd k) = false → L k) (last : ∀ k, k < ops.size → k ≠ i → k ≠ j → isQ (dd k) = false → Nat.testBit (Aof ops.toList i) k = true)
      (hs : storeF n2 vs2 (lay (Aof ops.toList i) (st i).pend (st i).h) = some q) (hs2 : storeF n1 vs1 q.2 = some q2) (hne : ∀ r o v r' o' v', vs1 = [.ptr r o, v] → vs2 = [.ptr r' o', v'] → r ≠ r')
      (hm : Hm P val ops h0 ρ0 w0 ρ q.2.get q.2.next w)
structure Inv (P : Program) (val : Nat → Value) (ops : Array Oper) (h0 : Hp) (st : Nat → DS) (tv : Nat → AV) (dd : Nat → Did) (ρ0 : Rho) (a0 : Act) (w0 : World) (L : Nat → Prop) (ρ : Rho) (a : Act) (w : World) : Prop where
  closed : ∀ j k, j < ops.size → L j → Nat.testBit (Aof ops.toList j) k = true → L k
  slots : Slots val ops tv a0 L ρ a
  ext : Ext ρ0 ρ
  unb : ∀ k, NwAt P ops k → ¬ L k → ρ (st k).res = none
  mem : Mem P val ops h0 st dd ρ0 w0 L ρ w

theorem E_notQ {d : Did} (h : isE d = true) : isQ d = false := by cases d <;> first | rfl | cases h
theorem dOk_lt {N : Nat} : ∀ {l : List Oper}, dOkOps N l = true → ∀ o ∈ l, ∀ d, o.dst = some d → d < N
  | [], _, o, ho, _, _ => by simp at ho
  | q :: l, h, o, ho, d, hd => by
    unfold dOkOps at h
    have key : dOkOps N l = true ∧ ∀ d, q.dst = some d → d < N := by
      cases hq : q.dst with
      | none => rw [hq] at h; exact ⟨h, fun d h => by cases h⟩
      | some d' =>
        simp only [hq] at h
        cases hb : Nat.blt d' N with
        | false => simp [hb] at h
        | true => simp [hb] at h; exact ⟨h, fun d h => by cases h; simpa [Nat.blt_eq] using hb⟩
    rcases List.mem_cons.1 ho with rfl | ho
    · exact key.2 d hd
    · exact dOk_lt key.1 o ho d hd

section
variable (hT : Tc P val ops m t0 h0 st tv dd) (hN : dOkOps N ops.toList = true) (hs : Sr val ρ0 N m [] [] t0 a0)
include hT

theorem Tc.impure {k : Nat} {o : Oper} (ho : ops.toList[k]? = some o) (hq : isQ (dd k) = false) : isPure (cls P o.op) = false := by
  have := (hT.step k o ho).2.1
  cases hx : dd k with
  | quiet => rw [hx] at hq; cases hq
  | read F => rw [hx] at this; exact this.2.2
  | new ob => rw [hx] at this; exact this.1
  | eff F out sv => rw [hx] at this; exact this.2.2.2.2.2.1
theorem Tc.isEff {k : Nat} {o : Oper} (ho : ops.toList[k]? = some o) (hq : isE (dd k) = true) : isEff (cls P o.op) = true := by
  have := (hT.step k o ho).2.1
  cases hx : dd k with
  | eff F out sv => rw [hx] at this; exact this.2.2.2.2.1
  | _ => rw [hx] at hq; cases hq

include hs in
theorem Tc.opv {L : Nat → Prop} {ρ : Rho} {a : Act} {j : Nat} {o : Oper} (ho : ops.toList[j]? = some o) (hL : ¬ L j) (hlt : ∀ k, L k → k < ops.size) (hcl : ∀ j k, j < ops.size → L j → Nat.testBit (Aof ops.toList j) k = true → L k)
    (hanc : ∀ k, Nat.testBit (Aof ops.toList j) k = true → L k) (hS : Slots val ops tv a0 L ρ a) (he : Ext ρ0 ρ) (hG : Gl P ρ) : OpV P val ρ m (prevAt ops.toList j) ops.toList o (st j) a := by
  have hj : j < ops.size := by simpa using (List.getElem?_eq_some_iff.1 ho).1
  intro x hx v hv
  cases x with
  | tmp i =>
    unfold cRd at hv
    by_cases hk : ∃ k ok, k < j ∧ ops.toList[k]? = some ok ∧ ok.dst = some i
    · obtain ⟨k, ok, hkj, hok, hd⟩ := hk
      obtain ⟨⟨l, h1, h2⟩, _⟩ := hT.told hok hd j (by omega) hkj
      simp only [h1] at hv
      have hv : nth (st j).loc l = some v := hv
      rw [nth_eq, h2] at hv
      cases hv
      have hLk : L k := by
        rcases hT.plan.uses j k o ok i ho hok hx hd with h | h
        · exact hanc k h
        · have := hT.plan.lt k h; omega
      exact hS.told k ok i hLk hok hd
    · have hun : ∀ k o, k < j → ops.toList[k]? = some o → o.dst ≠ some i := fun k ok h1 h2 h3 => hk ⟨k, ok, h1, h2, h3⟩
      obtain ⟨h1, h2⟩ := hT.untold j (by omega) hun
      simp only [h1] at hv
      cases hb : Nat.testBit m i with
      | false => simp only [hb, cond_false] at hv; cases hv
      | true =>
        simp only [hb, cond_true] at hv
        have hv : (st j).t.get (pth i) = some v := hv
        rw [h2] at hv
        have hV := V_mono he _ _ (hs.slot i v hb hv)
        show V val ρ v (a.tmps.getD i undef)
        rw [hS.untold i ?_]
        · exact hV
        · intro k ok hLk hok hd
          rcases Nat.lt_or_ge k j with h | h
          · exact hun k ok h hok hd
          · rcases Nat.lt_or_ge j k with h' | h'
            · rcases hT.plan.uses j k o ok i ho hok hx hd with h3 | h3
              · have := hT.plan.lt j h3; omega
              · exact hL (hcl k j (hlt k hLk) hLk h3)
            · have : k = j := by omega
              subst this; exact hL hLk
  | const c => exact (ofValue_spec hv).1
  | global g =>
    unfold cRd at hv
    cases hb : Nat.blt g P.globals.size with
    | true =>
      simp only [hb, cond_true] at hv
      cases hv
      obtain ⟨L, h1, h2, h3⟩ := hG g (by simpa [Nat.blt_eq] using hb)
      exact V_ptr.2 ⟨L, h1, by rw [h2, h3]; rfl⟩
    | false => simp only [hb, cond_false] at hv; cases hv
  | func f => cases hv; exact V_fn.2 ⟨#[], #[], rfl, Vs_nil, Vs_nil⟩

include hN hs in
theorem Tc.slots_put {L : Nat → Prop} {ρ ρ' : Rho} {a : Act} {j : Nat} {o : Oper} {u : Value} (ho : ops.toList[j]? = some o) (hL : ¬ L j) (hS : Slots val ops tv a0 L ρ a) (he : Ext ρ ρ') (hV : V val ρ' (tv j) u) :
    Slots val ops tv a0 (fun k => k = j ∨ L k) ρ' (a.put o.dst u) := by
  cases hd : o.dst with
  | none =>
    refine ⟨?_, ?_, hS.size, hS.nodef⟩
    · rintro k o' d (rfl | hk) ho' hd'
      · rw [ho] at ho'; cases ho'; rw [hd] at hd'; cases hd'
      · exact V_mono he _ _ (hS.told k o' d hk ho' hd')
    · intro d h
      exact hS.untold d fun k o' hk => h k o' (.inr hk)
  | some d0 =>
    have hlt : d0 < a.tmps.size := by
      rw [hS.size]
      exact Nat.lt_of_lt_of_le (dOk_lt hN o (List.mem_of_getElem? ho) d0 hd) hs.size
    refine ⟨?_, ?_, by simpa [Act.put] using hS.size, hS.nodef⟩
    · intro k o' d hk ho' hd'
      rw [getD_put hlt]
      by_cases e : d = d0
      · rw [if_pos e]
        have : k = j := hT.plan.uniq k j o' o d ho' ho hd' (by rw [hd, e])
        subst this
        exact hV
      · rw [if_neg e]
        rcases hk with rfl | hk
        · rw [ho] at ho'; cases ho'; rw [hd] at hd'; cases hd'; exact (e rfl).elim
        · exact V_mono he _ _ (hS.told k o' d hk ho' hd')
    · intro d h
      have hne : d ≠ d0 := fun e => h j o (.inl rfl) ho (by rw [hd, e])
      rw [getD_put hlt, if_neg hne]
      exact hS.untold d fun k o' hk => h k o' (.inr hk)

/-- a quiet step, a read: the memory stays -/
theorem Tc.mem_quiet {L : Nat → Prop} {ρ : Rho} {w : World} {j : Nat} (hj : j < ops.size) (hd : (∃ F, dd j = .read F) ∨ dd j = .quiet) (hM : Mem P val ops h0 st dd ρ0 w0 L ρ w) : Mem P val ops h0 st dd ρ0 w0 (fun k => k = j ∨ L k) ρ w := by
  have hnE : isE (dd j) = false := by rcases hd with ⟨F, hd⟩ | hd <;> rw [hd] <;> rfl
  have hnN : ∀ ob, dd j ≠ .new ob := by rcases hd with ⟨F, hd⟩ | hd <;> rw [hd] <;> simp
  cases hM with
  | line q hq pos dis hm =>
    refine .line q hq ?_ ?_ ?_
    · intro e he hE
      rw [← pos e he hE]
      exact ⟨fun h => h.resolve_left (by rintro rfl; rw [hnE] at hE; cases hE), .inr⟩
    · intro k ob hk hL hf hn
      exact dis k ob hk (hL.resolve_left (by rintro rfl; exact hnN _ hn)) hf hn
    · rw [hT.GL_congr (L' := L) fun k ob _ hn => ⟨fun h => h.resolve_left (by rintro rfl; exact hnN _ hn), .inr⟩]
      exact hm
  | swap i j' n1 n2 vs1 vs2 F1 F2 o1 o2 q q2 hij hj' di dj li rest last hs hs2 hne hm =>
    refine .swap i j' n1 n2 vs1 vs2 F1 F2 o1 o2 q q2 hij hj' di dj ?_ (fun k h1 h2 h3 => .inr (rest k h1 h2 h3)) last hs hs2 hne hm
    rintro (rfl | h)
    · rw [di] at hnE; cases hnE
    · exact li h

/-- the memory ahead of an effect, parted -/
theorem Tc.split {L : Nat → Prop} {j : Nat} (hj : j < ops.size) (hd : isE (dd j) = true) (hanc : ∀ k, Nat.testBit (Aof ops.toList j) k = true → L k) (dis : ∀ k ob, k < ops.size → L k → flt ops.toList dd j k → dd k = .new ob → (st j).h.get (st k).res = none) :
    GL ops.toList ops.size st dd L j = (fun r => ((lay (Aof ops.toList j) (st j).pend (st j).h).get r).or (flo ops.size st dd (fun k => L k ∧ flt ops.toList dd (j + 1) k) r)) ∧
    ∀ r o, flo ops.size st dd (fun k => L k ∧ flt ops.toList dd (j + 1) k) r = some o → (lay (Aof ops.toList j) (st j).pend (st j).h).get r = none := by
  have hdis : ∀ r o, flo ops.size st dd (fun k => L k ∧ flt ops.toList dd (j + 1) k) r = some o → (lay (Aof ops.toList j) (st j).pend (st j).h).get r = none := by
    intro r o h
    obtain ⟨k, k1, ⟨k2, k3⟩, k4, k5⟩ := hT.flo_some.1 h
    have k3' := (flt_eff hd).1 k3
    rw [lay_none]
    · rw [← k5]; exact dis k o k1 k2 k3'.1 k4
    · intro p hp hb hr
      obtain ⟨p1, p2, p3, p4⟩ := (hT.pend j (by omega) p).1 hp
      have : p.i = k := hT.res_inj (hT.nw (by omega) p2) (hT.nw k1 k4) (by rw [← p3, hr, k5])
      rw [this] at hb
      rw [k3'.2] at hb
      cases hb
  refine ⟨?_, hdis⟩
  funext r
  unfold GL
  cases hx : flo ops.size st dd (fun k => L k ∧ flt ops.toList dd j k) r with
  | some o =>
    obtain ⟨k, k1, ⟨k2, k3⟩, k4, k5⟩ := hT.flo_some.1 hx
    cases hb : Nat.testBit (Aof ops.toList j) k with
    | true =>
      have hkj := hT.plan.lt j hb
      have hmem : (⟨k, (st k).res, o⟩ : Pd) ∈ (st j).pend := (hT.pend j (by omega) _).2 ⟨hkj, k4, rfl, k3⟩
      obtain ⟨p, hp, p1, p2, p3⟩ := lay_some (h := (st j).h) ⟨_, hmem, hb, k5⟩
      obtain ⟨p4, p5, p6, p7⟩ := (hT.pend j (by omega) p).1 hp
      have : p.i = k := hT.res_inj (hT.nw (by omega) p5) (hT.nw k1 k4) (by rw [← p6, p2, k5])
      rw [this, k4] at p5
      injection p5 with p5
      rw [p3, ← p5]
      rfl
    | false =>
      have hf : flo ops.size st dd (fun k => L k ∧ flt ops.toList dd (j + 1) k) r = some o := hT.flo_some.2 ⟨k, k1, ⟨k2, (flt_eff hd).2 ⟨k3, hb⟩⟩, k4, k5⟩
      rw [hdis r o hf, hf]
      rfl
  | none =>
    have hn := hT.flo_none.1 hx
    have hf : flo ops.size st dd (fun k => L k ∧ flt ops.toList dd (j + 1) k) r = none := hT.flo_none.2 fun k o h1 h2 h3 => hn k o h1 ⟨h2.1, ((flt_eff hd).1 h2.2).1⟩ h3
    rw [hf, lay_none]
    · simp
    · intro p hp hb hr
      obtain ⟨p1, p2, p3, p4⟩ := (hT.pend j (by omega) p).1 hp
      exact hn p.i p.o (by omega) ⟨hanc _ hb, p4⟩ p2 (by rw [← p3, hr])

/-- a read finds what it found -/
theorem Tc.read_at {L : Nat → Prop} {ρ : Rho} {w : World} {j : Nat} {o : Oper} {F : Hp → Option AV} (ho : ops.toList[j]? = some o) (hd : dd j = .read F) (hL : ¬ L j) (hanc : ∀ k, Nat.testBit (Aof ops.toList j) k = true → L k)
    (hcl : ∀ j k, j < ops.size → L j → Nat.testBit (Aof ops.toList j) k = true → L k) {q : Nat} (hq : q ≤ ops.size) (pos : ∀ e, e < ops.size → isE (dd e) = true → (L e ↔ e < q))
    (dis : ∀ k ob, k < ops.size → L k → flt ops.toList dd q k → dd k = .new ob → (st q).h.get (st k).res = none) (hR : R val ρ (GL ops.toList ops.size st dd L q) (st q).h.next w) : ∃ h, Rd val ρ h.get w ∧ F h = some (tv j) := by
  have hj : j < ops.size := by simpa using (List.getElem?_eq_some_iff.1 ho).1
  have hfit := (hT.step j o ho).2.1
  rw [hd] at hfit
  obtain ⟨f1, f2, _⟩ := hfit
  -- what is laid of a list that floats at q
  have use : ∀ (l : List Pd) (h : Hp), (st q).h = h → (∀ p ∈ l, Nat.testBit (Aof ops.toList j) p.i = true → p.i < ops.size ∧ flt ops.toList dd q p.i ∧ dd p.i = .new p.o ∧ p.r = (st p.i).res) → F (lay (Aof ops.toList j) l h) = some (tv j) → ∃ h, Rd val ρ h.get w ∧ F h = some (tv j) := by
    intro l h hh hl hF
    refine ⟨_, fun r ob hr => ?_, hF⟩
    exact hR.ob r ob (hT.lay_sub hh (fun p hp hb => let ⟨x1, x2, x3, x4⟩ := hl p hp hb; ⟨x1, hanc _ hb, x2, x3, x4⟩) r ob hr dis)
  have pfl : ∀ j', j' ≤ ops.size → (∀ k, flt ops.toList dd j' k → L k → flt ops.toList dd q k) → ∀ p ∈ (st j').pend, Nat.testBit (Aof ops.toList j) p.i = true → p.i < ops.size ∧ flt ops.toList dd q p.i ∧ dd p.i = .new p.o ∧ p.r = (st p.i).res := by
    intro j' hj' hf p hp hb
    obtain ⟨p1, p2, p3, p4⟩ := (hT.pend j' hj' p).1 hp
    exact ⟨by omega, hf _ p4 (hanc _ hb), p2, p3⟩
  by_cases hlo : ∃ e, e < j ∧ isE (dd e) = true ∧ ¬ L e
  · -- the first effect that is not done
    obtain ⟨e, ⟨he1, he2, he3⟩, hmin⟩ : ∃ e, (e < j ∧ isE (dd e) = true ∧ ¬ L e) ∧ ∀ e', e' < e → ¬ (e' < j ∧ isE (dd e') = true ∧ ¬ L e') := by
      obtain ⟨e, he⟩ := hlo
      induction e using Nat.strongRecOn with
      | ind e ih =>
        by_cases hx : ∃ e', e' < e ∧ (e' < j ∧ isE (dd e') = true ∧ ¬ L e')
        · obtain ⟨e', h1, h2⟩ := hx; exact ih e' h1 h2
        · exact ⟨e, he, fun e' h1 h2 => hx ⟨e', h1, h2⟩⟩
    have hqe : q ≤ e := by
      rcases Nat.lt_or_ge e q with h | h
      · exact (he3 ((pos e (by omega) he2).2 h)).elim
      · exact h
    have hst : ∀ e', q ≤ e' → e' < e → isE (dd e') = false := by
      intro e' h1 h2
      cases hE : isE (dd e') with
      | false => rfl
      | true =>
        have hl : L e' := Classical.byContradiction fun hn => hmin e' h2 ⟨by omega, hE, hn⟩
        have := (pos e' (by omega) hE).1 hl
        omega
    cases hx : dd e with
    | eff G out sv =>
      have hb : Nat.testBit (Aof ops.toList j) e = false := by
        cases hb : Nat.testBit (Aof ops.toList j) e with
        | false => rfl
        | true => exact (he3 (hanc e hb)).elim
      have := seenBack_spec f2 _ (hT.hist hx j (by omega) he1) hb
      exact use _ _ (hT.h_same hqe (by omega) hst).symm (pfl e (by omega) fun k hk _ => (flt_still hqe hst).1 hk) this
    | _ => rw [hx] at he2; cases he2
  · have hlo : ∀ e, e < j → isE (dd e) = true → L e := fun e h1 h2 => Classical.byContradiction fun hn => hlo ⟨e, h1, h2, hn⟩
    by_cases hhi : ∃ e, j < e ∧ e < q ∧ isE (dd e) = true
    · -- the last effect that is done
      obtain ⟨e, ⟨he1, he2, he3⟩, hmax⟩ : ∃ e, (j < e ∧ e < q ∧ isE (dd e) = true) ∧ ∀ e', e < e' → ¬ (j < e' ∧ e' < q ∧ isE (dd e') = true) := by
        obtain ⟨e, he⟩ := hhi
        generalize hk : q - e = k
        induction k using Nat.strongRecOn generalizing e with
        | ind k ih =>
          by_cases hx : ∃ e', e < e' ∧ (j < e' ∧ e' < q ∧ isE (dd e') = true)
          · obtain ⟨e', h1, h2⟩ := hx
            exact ih (q - e') (by have := h2.2.1; have := he.2.1; omega) e' h2 rfl
          · exact ⟨e, he, fun e' h1 h2 => hx ⟨e', h1, h2⟩⟩
      have hst : ∀ e', e + 1 ≤ e' → e' < q → isE (dd e') = false := by
        intro e' h1 h2
        cases hE : isE (dd e') with
        | false => rfl
        | true => exact (hmax e' (by omega) ⟨by omega, h2, hE⟩).elim
      cases hx : dd e with
      | eff G out sv =>
        obtain ⟨oe, hoe⟩ := at_lt (ops := ops) (j := e) (by omega)
        have hfe := (hT.step e oe hoe).2.1
        rw [hx] at hfe
        have hLe : L e := (pos e (by omega) he3).2 he2
        have hb : Nat.testBit (Aof ops.toList e) j = false := by
          cases hb : Nat.testBit (Aof ops.toList e) j with
          | false => rfl
          | true => exact (hL (hcl e j (by omega) hLe hb)).elim
        have := seenOn_spec hfe.2.1 _ (hT.rds hd e (by omega) he1) hb
        refine use _ _ ((hT.h_same (q := e + 1) (by omega) hq hst).trans (hT.h_eff (by omega) hx)) ?_ this
        intro p hp hbp
        rw [mem_unlaid] at hp
        obtain ⟨p1, p2, p3, p4⟩ := (hT.pend e (by omega) p).1 hp.1
        exact ⟨by omega, (flt_still (q := e + 1) (by omega) hst).2 ((flt_eff he3).2 ⟨p4, hp.2⟩), p2, p3⟩
      | _ => rw [hx] at he3; cases he3
    · -- none
      have hhi : ∀ e, j < e → e < q → isE (dd e) = false := fun e h1 h2 => by
        cases hE : isE (dd e) with
        | false => rfl
        | true => exact (hhi ⟨e, h1, h2, hE⟩).elim
      have hjE : isE (dd j) = false := by rw [hd]; rfl
      rcases Nat.le_total q j with hqj | hqj
      · have hst : ∀ e, q ≤ e → e < j → isE (dd e) = false := by
          intro e h1 h2
          cases hE : isE (dd e) with
          | false => rfl
          | true => have := (pos e (by omega) hE).1 (hlo e h2 hE); omega
        exact use _ _ (hT.h_same hqj (by omega) hst).symm (pfl j (by omega) fun k hk _ => (flt_still hqj hst).1 hk) f1
      · have hst : ∀ e, j ≤ e → e < q → isE (dd e) = false := by
          intro e h1 h2
          rcases Nat.lt_or_ge j e with h | h
          · exact hhi e h h2
          · have : e = j := by omega
            subst this; exact hjE
        exact use _ _ (hT.h_same hqj hq hst) (pfl j (by omega) fun k hk _ => (flt_still hqj hst).2 hk) f1
end
end Go.Ev
