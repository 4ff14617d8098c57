/- The interpreter is sound. -/
import Derived.Test.YtilmbaeedbfldaaGreatDoorEvZ
set_option linter.unusedVariables false
set_option linter.unusedSimpArgs false
set_option linter.unusedSectionVars false
namespace Go.Ev

variable {P : Program} {val : Nat → Value} {ρ : Rho}

theorem storeF_one {h : Hp} {r : Id} {c v : AV} (hg : h.get r = some (.row false [c])) (h1 : v.one = true) (h2 : ∀ l, v ≠ .agg l) : storeF 1 [.ptr r 0, v] h = some (.tup [], h.put r (.row false [v])) := by
  have hc : v.cells = [v] := cells_else h2
  refine storeF_mk hg ?_ (by rw [hc]; rfl)
  rw [hc]
  show (Bool.rec none (some [v]) v.one : Option (List AV)) = _
  rw [h1]
theorem zero_one {t : TypeId} {z : AV} {n : Nat} (hz : zero? P t = some (z, n)) : z.cells.length = n := by
  unfold zero? at hz
  split at hz
  · split at hz
    · split at hz
      · obtain ⟨h1, h2⟩ := bif_some hz
        cases h2
        simp only [Bool.and_eq_true, Nat.beq_eq, lenL_eq] at h1
        exact h1.1
      · cases hz
    · cases hz
  · cases hz

theorem coin_ok (hm : P.follows .mixedOrders = true) (hval : ∀ i, (val i).oneCell' = true) : CoinOk P val := by
  intro ops id N m b d Q t h S a w ρ hN hco hb hk hG hs hR hQ
  obtain ⟨t0, t1, t2, t3, y0, y1, y2, y3, p0, p1, p2, p3, x0, x1, x2, x3, hbd, ⟨z, hz⟩, hp1, hp2, hp3, hE, hl⟩ := coin_spec hco
  have hs1 : sz? P t1 = some 1 := (pt_spec hp1).2
  have hs2 : sz? P t2 = some 1 := (pt_spec hp2).2
  have hops : ∀ (i : Nat) (o : Oper), [(⟨some b, .alloc t0, y0, p0, x0, none⟩ : Oper), ⟨none, .store t1 (.tmp b) (.const (.bool true)), y1, p1, x1, none⟩, ⟨none, .store t2 (.tmp b) (.const (.bool false)), y2, p2, x2, none⟩, ⟨some d, .load t3 (.tmp b), y3, p3, x3, none⟩][i]? = some o → ops[i]? = some o := by
    intro i o h
    rw [← hl] at h
    simpa using h
  have hdN : ∀ o ∈ ops.toList, ∀ d, o.dst = some d → d < N := fun o ho d hd => dOk_lt hN o ho d hd
  have hbN : b < N := hdN _ (List.mem_of_getElem? (i := 0) (by rw [hl]; rfl)) b rfl
  have hdN : d < N := hdN _ (List.mem_of_getElem? (i := 3) (by rw [hl]; rfl)) d rfl
  refine wp_region_any hm (coin_orders hl (by rw [hl] at hE; exact hE) ?_)
  rw [kp_eq] at hk
  cases hk
  have hR0 : R val ρ (Hp.mk .nil h.next).get (Hp.mk .nil h.next).next { w with drawn := w.drawn + 1 } := R.sub (g := h.get) (R.drawn hR rfl) fun r o (hx : (Hp.mk .nil h.next).get r = some o) => by cases hx
  obtain ⟨c, hcz⟩ : ∃ c, z.cells = [c] := by
    have hl1 := zero_one hz
    match hc : z.cells, hl1 with
    | [c], _ => exact ⟨c, rfl⟩
  have kb : cKp m (some b) = .push := by simp [cKp, hb]
  have h00 : (Hp.new ⟨.nil, h.next⟩ (.row false z.cells)).get h.next = some (.row false [c]) := by
    rw [Hp.get_new, hcz]
    exact upd_self _ _ _
  -- the end
  have fin : ∀ (v : Bool) (ρ3 : Rho) (g : Gt) (nx : Id) (w3 : World) (a1 a3 : Act) (u0 u3 : Value), a1 = a.put (some b) u0 → a3 = a1.put (some d) u3 → V val ρ3 (.bool v) u3 → Mv ρ (Hp.mk .nil h.next).get h.next { w with drawn := w.drawn + 1 } ρ3 g nx w3 → Q .normal a3 w3 := by
    intro v ρ3 g nx w3 a1 a3 u0 u3 e1 e3 hV hM
    subst e1 e3
    have hold : ∀ i, i < w.heap.size → w3.heap[i]? = w.heap[i]? := fun i hi => hM.block i hi (fun r o L (hx : (Hp.mk .nil h.next).get r = some o) => by cases hx)
    have hsz : b < a.tmps.size := Nat.lt_of_lt_of_le hbN hs.size
    have hsz2 : d < (a.put (some b) u0).tmps.size := by simpa [Act.put] using Nat.lt_of_lt_of_le hdN hs.size
    refine hQ _ _ ⟨⟨ρ, ⟨(fun i n v h1 _ => by cases h1), ?_, by simpa [Act.put] using hs.size, hs.nodef⟩, ?_, ?_⟩⟩
    · intro i x hbi hx
      rw [getD_put hsz2]
      by_cases e : i = d
      · rw [if_pos e]
        subst e
        have : kpT (cKp m (some i)) .coin t = t.set (pth i) .coin := by simp [cKp, hbi, kpT]
        rw [this, Tr.get_set, if_pos rfl] at hx
        cases hx
        rw [V_bool.1 hV]
        simp [V]
      · rw [if_neg e, getD_put hsz, if_neg (by rintro rfl; rw [hb] at hbi; cases hbi)]
        refine hs.slot i x hbi ?_
        cases hbd' : Nat.testBit m d with
        | false => have : kpT (cKp m (some d)) .coin t = t := by simp [cKp, hbd', kpT]
                   rw [this] at hx; exact hx
        | true =>
          have : kpT (cKp m (some d)) .coin t = t.set (pth d) .coin := by simp [cKp, hbd', kpT]
          rw [this, Tr.get_set, if_neg (fun k => e (pth_inj k))] at hx
          exact hx
    · refine ⟨?_, hR.ap, hR.fr⟩
      intro r o ho
      obtain ⟨L, hL, hO⟩ := hR.ob r o ho
      exact ⟨L, hL, hO.mono (Ext.refl _) (hold _ hO.lt)⟩
    · exact ⟨Ext.refl _, Nat.le_refl _, (fun r L h1 h2 => by rw [h1] at h2; cases h2), (fun r o L h1 _ => ⟨o, h1⟩), hM.os, hM.tape, hM.output, hM.size, fun i hi _ => hold i hi⟩
  -- the load
  have ld : ∀ (v : Bool) (h3 : Hp) (ρ2 : Rho) (w2 : World) (a1 : Act) (u0 : Value), a1 = a.put (some b) u0 → h3.get h.next = some (.row false [.bool v]) → Gl P ρ2 → Sr val ρ2 N m [b] [.ptr h.next 0] t a1 → R val ρ2 h3.get h3.next w2 →
      Mv ρ (Hp.mk .nil h.next).get h.next { w with drawn := w.drawn + 1 } ρ2 h3.get h3.next w2 → wpOp P ops Q 3 (Q .normal) a1 w2 := by
    intro v h3 ρ2 w2 a1 u0 e1 hg hG2 hs2 hR2 hM2
    refine one_wp hval (S := ⟨kpL (cKp m (some d)) (.bool v) [.ptr h.next 0], kpT (cKp m (some d)) (.bool v) t, h3⟩) (hops 3 _ rfl) rfl ?_ hG2 hs2 hR2 fun v' ρ3 u3 w3 hk hV hR3 hM3 => ?_
    · have e : opK P (.load t3 (.tmp b)) = .r1 .ld1 := by simp [opK, hp3]
      have e2 : cRd P m [b] (.tmp b) = .loc 0 := by simp [cRd, locIdx]
      have e3 : load1F h3 (.ptr h.next 0) = some (.bool v) := by
        show (Option.rec none (fun cs => nth cs 0) (row? (h3.get h.next)) : Option AV) = _
        rw [hg]; rfl
      have e4 : rd (.loc 0) [AV.ptr h.next 0] t = some (.ptr h.next 0) := rfl
      show runStp (cStp P m [b] [Operand.tmp b] (opK P (.load t3 (.tmp b))) (cKp m (some d))) env0 [.ptr h.next 0] t h3 = _
      rw [e]
      show (Option.rec none (fun a => Option.rec none (fun v => kp (cKp m (some d)) v [.ptr h.next 0] t h3) (load1F h3 a)) (rd (cRd P m [b] (.tmp b)) [.ptr h.next 0] t) : Option Ev.S) = _
      rw [e2, e4]
      show (Option.rec none (fun v => kp (cKp m (some d)) v [.ptr h.next 0] t h3) (load1F h3 (.ptr h.next 0)) : Option Ev.S) = _
      rw [e3]
      exact kp_eq _ _ _ _ _
    · have : v' = .bool v := by
        rw [kp_eq] at hk
        injection hk with hk
        injection hk with hk1 hk2
        cases hbd' : Nat.testBit m d <;> simp [cKp, hbd', kpL] at hk1 <;> exact hk1
      subst this
      exact fin v ρ3 _ _ w3 a1 _ u0 u3 e1 rfl hV (hM2.trans hM3)
  -- a store
  have stp : ∀ (i : Nat) (v : Bool) (ty : TypeId) (y : TypeId) (p : String) (x : Array Edge) (c : AV) (h3 : Hp) (ρ2 : Rho) (w2 : World) (a1 : Act) (u0 : Value) (K : Act → World → Prop), ops[i]? = some ⟨none, .store ty (.tmp b) (.const (.bool v)), y, p, x, none⟩ → sz? P ty = some 1 →
      a1 = a.put (some b) u0 → h3.get h.next = some (.row false [c]) → Gl P ρ2 → Sr val ρ2 N m [b] [.ptr h.next 0] t a1 → R val ρ2 h3.get h3.next w2 →
      Mv ρ (Hp.mk .nil h.next).get h.next { w with drawn := w.drawn + 1 } ρ2 h3.get h3.next w2 →
      (∀ (h4 : Hp) (ρ4 : Rho) (w4 : World), h4.get h.next = some (.row false [.bool v]) → Gl P ρ4 → Sr val ρ4 N m [b] [.ptr h.next 0] t a1 → R val ρ4 h4.get h4.next w4 → Mv ρ (Hp.mk .nil h.next).get h.next { w with drawn := w.drawn + 1 } ρ4 h4.get h4.next w4 → K a1 w4) →
      wpOp P ops Q i K a1 w2 := by
    intro i v ty y p x c h3 ρ2 w2 a1 u0 K ho hty e1 hg hG2 hs2 hR2 hM2 hK
    refine one_wp hval (S := ⟨[.ptr h.next 0], t, h3.put h.next (.row false [.bool v])⟩) ho rfl ?_ hG2 hs2 hR2 fun v' ρ4 u4 w4 hk hV hR4 hM4 => ?_
    · have e : opK P (.store ty (.tmp b) (.const (.bool v))) = .ef (.store 1) := by simp [opK, hty]
      have e2 : cRd P m [b] (.tmp b) = .loc 0 := by simp [cRd, locIdx]
      have e3 : rds ([Operand.tmp b, .const (.bool v)].map (cRd P m [b])) [AV.ptr h.next 0] t = some [.ptr h.next 0, .bool v] := by
        show rds [cRd P m [b] (.tmp b), .con (some (.bool v))] [AV.ptr h.next 0] t = _
        rw [e2]; rfl
      show runStp (cStp P m [b] [Operand.tmp b, .const (.bool v)] (opK P (.store ty (.tmp b) (.const (.bool v)))) .drop) env0 [.ptr h.next 0] t h3 = _
      rw [e]
      show (Option.rec none (fun a => Option.rec none (fun p => kp .drop p.1 [.ptr h.next 0] t p.2) (storeF 1 a h3)) (rds ([Operand.tmp b, .const (.bool v)].map (cRd P m [b])) [AV.ptr h.next 0] t) : Option Ev.S) = _
      rw [e3]
      show (Option.rec none (fun p => kp .drop p.1 [.ptr h.next 0] t p.2) (storeF 1 [.ptr h.next 0, .bool v] h3) : Option Ev.S) = _
      rw [storeF_one hg rfl (fun l h => by cases h)]
      rfl
    · exact hK _ ρ4 w4 (by rw [Hp.get_put]; exact upd_self _ _ _) (hG2.ext hM4.ext) (hs2.ext hM4.ext) hR4 (hM2.trans hM4)
  refine one_wp (N := N) (m := m) (prev := []) (loc := []) (t := t) hval (S := ⟨[.ptr h.next 0], t, (Hp.mk .nil h.next).new (.row false z.cells)⟩) (hops 0 _ rfl) rfl ?_ hG ?_ hR0 fun v ρ1 u w1 hk hV hR1 hM1 => ?_
  · have e : opK P (.alloc t0) = .al (.alloc z) := by simp [opK, hz]
    show runStp (cStp P m [] [] (opK P (.alloc t0)) (cKp m (some b))) env0 [] t (Hp.mk .nil h.next) = _
    rw [e, kb]
    rfl
  · exact ⟨hs.loc, hs.slot, hs.size, hs.nodef⟩
  · have hk0 := hk
    rw [show cKp m (Oper.mk (some b) (.alloc t0) y0 p0 x0 none).dst = .push from kb] at hk
    injection hk with hk
    injection hk with hk1 hk2
    injection hk1 with hk1
    subst hk1
    have hsl : Sr val ρ1 N m [b] [.ptr h.next 0] t (a.put (some b) u) := hs.put (a := a) (dst := some b) hM1.ext hV (fun d' h' => by cases h'; exact hbN) hk0
    have hG1 := hG.ext hM1.ext
    have go : ∀ (i j : Nat) (vi vj : Bool) (ti tj : TypeId) (yi yj : TypeId) (qi qj : String) (xi xj : Array Edge), ops[i]? = some ⟨none, .store ti (.tmp b) (.const (.bool vi)), yi, qi, xi, none⟩ → ops[j]? = some ⟨none, .store tj (.tmp b) (.const (.bool vj)), yj, qj, xj, none⟩ →
        sz? P ti = some 1 → sz? P tj = some 1 → wpOp P ops Q i (wpOp P ops Q j (wpOp P ops Q 3 (Q .normal))) (a.put (some b) u) w1 := by
      intro i j vi vj ti tj yi yj qi qj xi xj hi hj si sj
      refine stp i vi ti yi qi xi c _ ρ1 w1 _ u _ hi si rfl h00 hG1 hsl hR1 hM1 fun h4 ρ4 w4 g4 G4 S4 R4 M4 => ?_
      refine stp j vj tj yj qj xj _ _ ρ4 w4 _ u _ hj sj rfl g4 G4 S4 R4 M4 fun h5 ρ5 w5 g5 G5 S5 R5 M5 => ?_
      exact ld vj h5 ρ5 w5 _ u rfl g5 G5 S5 R5 M5
    exact ⟨go 1 2 true false t1 t2 y1 y2 p1 p2 x1 x2 (hops 1 _ rfl) (hops 2 _ rfl) hs1 hs2, go 2 1 false true t2 t1 y2 y1 p2 p1 x2 x1 (hops 2 _ rfl) (hops 1 _ rfl) hs2 hs1⟩

/-- THE INTERPRETER IS SOUND: what it says of a call, so it is. -/
theorem ev_sound {g : Gam} {sum : Sum} (hm : P.follows .mixedOrders = true) (hval : ∀ i, (val i).oneCell' = true) (hg : GamOk P val g) (hNG : ∀ (f : Nat) (fn : Func), P.funcs[f]? = some fn → (fn.name == "runtime.NumGoroutine") = false) (hX : XtOk P) (hS : SumOk P val sum) (n : Nat) :
    CallOk P val (call g (fuOf P) sum n) := call_sound hval hg hNG hX hS (fun _ hE => drw_ok hm hE) (coin_ok hm hval) n
end Go.Ev
