/- Regions that draw their order: each step, the whole. -/
import Derived.Test.YtilmbaeedbfldaaGreatDoorEvW
import Derived.Test.YtilmbaeedbfldaaGreatDoorEvT
import Derived.Orders
set_option linter.unusedVariables false
set_option linter.unusedSimpArgs false
set_option linter.unusedSectionVars false
namespace Go.Ev

variable {P : Program} {val : Nat → Value} {ops : Array Oper} {N m : Nat} {t0 : T} {h0 : Hp} {st : Nat → DS} {tv : Nat → AV} {dd : Nat → Did} {ρ0 : Rho} {a0 : Act} {w0 : World}

section
variable (hT : Tc P val ops m t0 h0 st tv dd) (hN : dOkOps N ops.toList = true) (hs : Sr val ρ0 N m [] [] t0 a0) (hG : Gl P ρ0)
include hT

/-- two effects of which neither must stand ahead: two stores, all else ahead of both -/
theorem Tc.pair {i j : Nat} (hij : i < j) (hj : j < ops.size) (hi : isE (dd i) = true) (hjE : isE (dd j) = true) (hb : Nat.testBit (Aof ops.toList j) i = false) :
    ∃ n1 vs1 n2 vs2 F1 F2 o1 o2, dd i = .eff F1 o1 (some (n1, vs1)) ∧ dd j = .eff F2 o2 (some (n2, vs2)) ∧ (∀ k, k < ops.size → k ≠ i → k ≠ j → isQ (dd k) = false → Nat.testBit (Aof ops.toList i) k = true ∧ Nat.testBit (Aof ops.toList j) k = true) := by
  obtain ⟨oi, hoi⟩ := at_lt (ops := ops) (j := i) (by omega)
  obtain ⟨oj, hoj⟩ := at_lt hj
  rcases hT.plan.effs j i oj oi hoj hoi hij (hT.isEff hoj hjE) (hT.isEff hoi hi) with h | ⟨h1, h2, h3⟩
  · rw [hb] at h; cases h
  · have fi := (hT.step i oi hoi).2.1
    have fj := (hT.step j oj hoj).2.1
    cases hdi : dd i with
    | eff F1 o1 s1 =>
      cases hdj : dd j with
      | eff F2 o2 s2 =>
        rw [hdi] at fi
        rw [hdj] at fj
        cases s1 with
        | none => exact (fi.2.2.2.2.2.2 h2 rfl).elim
        | some p1 =>
          cases s2 with
          | none => exact (fj.2.2.2.2.2.2 h1 rfl).elim
          | some p2 =>
            refine ⟨p1.1, p1.2, p2.1, p2.2, F1, F2, o1, o2, rfl, rfl, fun k hk ki kj hq => ?_⟩
            obtain ⟨ok, hok⟩ := at_lt hk
            rcases h3 k ok hok with h | h | h | h
            · exact (kj h).elim
            · exact (ki h).elim
            · rw [hT.impure hok hq] at h; cases h
            · exact h.symm
      | _ => rw [hdj] at hjE; cases hjE
    | _ => rw [hdi] at hi; cases hi

omit hT in
theorem closed_add {L : Nat → Prop} {j : Nat} (hcl : ∀ j k, j < ops.size → L j → Nat.testBit (Aof ops.toList j) k = true → L k) (hanc : ∀ k, Nat.testBit (Aof ops.toList j) k = true → L k) :
    ∀ i k, i < ops.size → (i = j ∨ L i) → Nat.testBit (Aof ops.toList i) k = true → (k = j ∨ L k) := by
  rintro i k hi (rfl | h) hb
  · exact .inr (hanc k hb)
  · exact .inr (hcl i k hi h hb)

include hN hs hG in
theorem Tc.step_inv {Q : Exit → Act → World → Prop} {L : Nat → Prop} {ρ : Rho} {a : Act} {w : World} {j : Nat} (hj : j < ops.size) (hL : ¬ L j) (hlt : ∀ k, L k → k < ops.size) (hanc : ∀ k, Nat.testBit (Aof ops.toList j) k = true → L k)
    (I : Inv P val ops h0 st tv dd ρ0 a0 w0 L ρ a w) : wpOp P ops Q j (fun a' w' => ∃ ρ', Inv P val ops h0 st tv dd ρ0 a0 w0 (fun k => k = j ∨ L k) ρ' a' w') a w := by
  obtain ⟨o, ho⟩ := at_lt hj
  have ho' : ops[j]? = some o := by simpa using ho
  have hopv := hT.opv hs ho hL hlt I.closed hanc I.slots I.ext (hG.ext I.ext)
  have hcl' := closed_add I.closed hanc
  obtain ⟨_, hfit, hrun⟩ := hT.step j o ho
  unfold wpOp
  rw [ho']
  simp only
  -- a step that leaves the memory
  have quiet : ((∃ F, dd j = .read F) ∨ dd j = .quiet) → ∀ u, V val ρ (tv j) u → ∃ ρ', Inv P val ops h0 st tv dd ρ0 a0 w0 (fun k => k = j ∨ L k) ρ' (a.put o.dst u) w := by
    intro hd u hV
    exact ⟨ρ, hcl', hT.slots_put hN hs ho hL I.slots (Ext.refl _) hV, I.ext, fun k hk hn => I.unb k hk fun h => hn (.inr h), hT.mem_quiet hj hd I.mem⟩
  rcases hrun with ⟨hw, htell⟩ | ⟨hw, hdq, hvt⟩
  rotate_left
  · rw [if_neg (by rw [hw ρ a hopv]; simp)]
    exact quiet (.inr hdq) undef (by rw [hvt]; exact V_undef)
  rw [if_pos (hw ρ a hopv)]
  refine .inl ?_
  -- when two stores part
  have noswap : isQ (dd j) = false → isE (dd j) = false → ∀ i j' n1 n2 vs1 vs2 F1 F2 o1 o2, dd i = .eff F1 o1 (some (n1, vs1)) → dd j' = .eff F2 o2 (some (n2, vs2)) → (∀ k, k < ops.size → k ≠ i → isQ (dd k) = false → L k) → False := by
    intro h1 h2 i j' n1 n2 vs1 vs2 F1 F2 o1 o2 di dj rest
    refine hL (rest j hj ?_ h1)
    rintro rfl
    rw [di] at h2; cases h2
  cases hd : dd j with
  | quiet =>
    rw [hd] at htell
    exact htell ρ a w _ Q hopv fun u hV => quiet (.inr hd) u hV
  | read F =>
    rw [hd] at htell
    cases I.mem with
    | swap i j' n1 n2 vs1 vs2 F1 F2 o1 o2 q q2 hij hj' di dj li rest last hs1 hs2 hne hm => exact (noswap (by rw [hd]; rfl) (by rw [hd]; rfl) i j' n1 n2 vs1 vs2 F1 F2 o1 o2 di dj rest).elim
    | line q hq pos dis hm =>
      obtain ⟨h, hR, hF⟩ := hT.read_at ho hd hL hanc I.closed hq pos dis hm.r
      exact htell ρ a w _ Q h hopv hR hF fun u hV => quiet (.inl ⟨F, hd⟩) u hV
  | new ob =>
    rw [hd] at htell hfit
    cases I.mem with
    | swap i j' n1 n2 vs1 vs2 F1 F2 o1 o2 q q2 hij hj' di dj li rest last hs1 hs2 hne hm => exact (noswap (by rw [hd]; rfl) (by rw [hd]; rfl) i j' n1 n2 vs1 vs2 F1 F2 o1 o2 di dj rest).elim
    | line q hq pos dis hm =>
      have hid := I.unb j (hT.nw hj hd) hL
      refine htell ρ a w _ Q hopv hid fun u w' Lc hgw hb hV hO => ?_
      have hnum := hT.res j (by omega)
      have hx : Ext ρ (upd ρ (st j).res Lc) := Ext.upd hid
      have hfl : flt ops.toList dd q j := by
        intro e he hE
        cases hbt : Nat.testBit (Aof ops.toList e) j with
        | false => rfl
        | true => exact (hL (I.closed e j (by omega) ((pos e (by omega) hE).2 he) hbt)).elim
      have hnone : GL ops.toList ops.size st dd L q (st j).res = none := by
        cases hg : GL ops.toList ops.size st dd L q (st j).res with
        | none => rfl
        | some x => obtain ⟨Lx, hLx, _⟩ := hm.r.ob _ x hg; rw [hid] at hLx; cases hLx
      have hhn : (st q).h.get (st j).res = none := by
        unfold GL at hnone
        exact (Option.or_eq_none_iff.1 hnone).2
      have hGL : GL ops.toList ops.size st dd (fun k => k = j ∨ L k) q = upd (GL ops.toList ops.size st dd L q) (st j).res ob := by
        unfold GL
        rw [hT.flo_congr (p' := fun k => k = j ∨ (L k ∧ flt ops.toList dd q k)) (fun k o' _ _ => ⟨fun ⟨h1, h2⟩ => h1.imp id fun h => ⟨h, h2⟩, fun h => h.elim (fun e => ⟨.inl e, e ▸ hfl⟩) fun ⟨h1, h2⟩ => ⟨.inr h1, h2⟩⟩), hT.flo_add hj hd]
        funext r
        unfold upd
        by_cases e : r = (st j).res
        · simp [e]
        · simp [e]
      refine ⟨upd ρ (st j).res Lc, hcl', hT.slots_put hN hs ho hL I.slots hx hV, I.ext.trans hx, ?_, ?_⟩
      · intro k hk hn
        rw [upd_ne]
        · exact I.unb k hk fun h => hn (.inr h)
        · intro e
          exact hn (.inl (hT.res_inj hk (hT.nw hj hd) e))
      · refine .line q hq ?_ ?_ ?_
        · intro e he hE
          rw [← pos e he hE]
          exact ⟨fun h => h.resolve_left (by rintro rfl; rw [hd] at hE; cases hE), .inr⟩
        · rintro k ob' hk (rfl | hLk) hf hn
          · exact hhn
          · exact dis k ob' hk hLk hf hn
        · rw [hGL]
          have hlt2 : num (st j).res < num (st q).h.next := by have := hm.up; have := hT.res_lt (hT.nw hj hd); omega
          exact ⟨hm.r.alloc hid hlt2 (Nat.le_refl _) hgw hb hO, hm.mv.trans (Mv.alloc hid (by omega) (Nat.le_refl _) hgw hb), hm.up⟩
  | eff F out sv =>
    have hjE : isE (dd j) = true := by rw [hd]; rfl
    rw [hd] at htell hfit
    obtain ⟨f1, f2, f3, f4, f5, f6, f7⟩ := hfit
    cases I.mem with
    | line q hq pos dis hm =>
      by_cases hall : ∀ e, e < j → isE (dd e) = true → L e
      · have hqj : q ≤ j := by
          rcases Nat.lt_or_ge j q with h | h
          · exact (hL ((pos j hj hjE).2 h)).elim
          · exact h
        have hst : ∀ e, q ≤ e → e < j → isE (dd e) = false := by
          intro e h1 h2
          cases hE : isE (dd e) with
          | false => rfl
          | true => have := (pos e (by omega) hE).1 (hall e h2 hE); omega
        have hhe := hT.h_same hqj (by omega) hst
        have hGe := hT.GL_still (L := L) hqj (by omega) hst
        have dis' : ∀ k ob, k < ops.size → L k → flt ops.toList dd j k → dd k = .new ob → (st j).h.get (st k).res = none := by
          intro k ob hk hLk hf hn
          rw [hhe]
          exact dis k ob hk hLk ((flt_still hqj hst).1 hf) hn
        obtain ⟨hsp, hkp⟩ := hT.split hj hjE hanc dis'
        have hR : R val ρ (fun r => ((lay (Aof ops.toList j) (st j).pend (st j).h).get r).or (flo ops.size st dd (fun k => L k ∧ flt ops.toList dd (j + 1) k) r)) (st j).h.next w := by
          rw [← hsp, hGe, hhe]; exact hm.r
        have hup : num h0.next + nwCount P ops.toList ≤ num (st j).h.next := by rw [hhe]; exact hm.up
        have hM0 : Mv ρ0 h0.get h0.next w0 ρ (fun r => ((lay (Aof ops.toList j) (st j).pend (st j).h).get r).or (flo ops.size st dd (fun k => L k ∧ flt ops.toList dd (j + 1) k) r)) h0.next w := by
          rw [← hsp, hGe]; exact hm.mv
        have hRk : R val ρ (lay (Aof ops.toList j) (st j).pend (st j).h).get (lay (Aof ops.toList j) (st j).pend (st j).h).next w := by
          rw [lay_next]
          exact hR.sub fun r ob h => by simp [h]
        refine htell ρ a w _ Q _ _ _ hopv (hG.ext I.ext) hRk f1 fun ρ' u w' hV hR' hM => ?_
        rw [lay_next] at hM
        have hro : ∀ r ob Lc, flo ops.size st dd (fun k => L k ∧ flt ops.toList dd (j + 1) k) r = some ob → ρ r = some Lc → Lc.ro = false := by
          intro r ob Lc h1 h2
          obtain ⟨k, k1, k2, k3, k4⟩ := hT.flo_some.1 h1
          obtain ⟨okk, hok⟩ := at_lt k1
          have hfk := (hT.step k okk hok).2.1
          rw [k3] at hfk
          obtain ⟨Lx, hLx, hO⟩ := hR.ob r ob (by rw [hkp r ob h1, h1]; rfl)
          rw [h2] at hLx
          cases hLx
          exact obFree_ro hfk.2.1 hO
        have hF := R.frame hR hkp hro hM hR'
        -- what floats is not among what the effect left
        have hout : ∀ r ob, flo ops.size st dd (fun k => L k ∧ flt ops.toList dd (j + 1) k) r = some ob → out.get r = none := by
          intro r ob h1
          cases hg : out.get r with
          | none => rfl
          | some x =>
            obtain ⟨Lx, hLx, _⟩ := hR.ob r ob (by rw [hkp r ob h1, h1]; rfl)
            obtain ⟨o0, hb⟩ := hM.rows r x Lx hg hLx
            rw [hkp r ob h1] at hb
            cases hb
        have hGn : GL ops.toList ops.size st dd (fun k => k = j ∨ L k) (j + 1) = fun r => (out.get r).or (flo ops.size st dd (fun k => L k ∧ flt ops.toList dd (j + 1) k) r) := by
          unfold GL
          rw [hT.h_eff hj hd, hT.flo_congr (p' := fun k => L k ∧ flt ops.toList dd (j + 1) k) fun k ob _ hn => ⟨fun ⟨h1, h2⟩ => ⟨h1.resolve_left (by rintro rfl; rw [hd] at hn; cases hn), h2⟩, fun ⟨h1, h2⟩ => ⟨.inr h1, h2⟩⟩]
          funext r
          cases hx : flo ops.size st dd (fun k => L k ∧ flt ops.toList dd (j + 1) k) r with
          | none => simp
          | some ob => rw [hout r ob hx]; rfl
        refine ⟨ρ', hcl', hT.slots_put hN hs ho hL I.slots hM.ext hV, I.ext.trans hM.ext, ?_, ?_⟩
        · intro k hk hn
          cases hr : ρ' (st k).res with
          | none => rfl
          | some Lx =>
            have := (hM.new _ Lx (I.unb k hk fun h => hn (.inr h)) hr).1
            have h2 := hT.res_lt hk
            omega
        · refine .line (j + 1) (by omega) ?_ ?_ ?_
          · intro e he hE
            constructor
            · rintro (rfl | h)
              · omega
              · have := (pos e he hE).1 h; omega
            · intro h
              by_cases e' : e = j
              · exact .inl e'
              · exact .inr (hall e (by omega) hE)
          · rintro k ob hk hLk hf hn
            have hLk : L k := hLk.resolve_left (by rintro rfl; rw [hd] at hn; cases hn)
            rw [hT.h_eff hj hd]
            exact hout _ ob (hT.flo_some.2 ⟨k, hk, ⟨hLk, hf⟩, hn, rfl⟩)
          · rw [hGn, hT.h_eff hj hd]
            refine ⟨hF, hM0.trans (hM.frame.low (by omega)), ?_⟩
            have := hM.up
            omega
      · -- the later one of two stores comes first
        obtain ⟨i, hij, hiE, hLi⟩ : ∃ e, e < j ∧ isE (dd e) = true ∧ ¬ L e := Classical.byContradiction fun h => hall fun e h1 h2 => Classical.byContradiction fun h3 => h ⟨e, h1, h2, h3⟩
        have hb : Nat.testBit (Aof ops.toList j) i = false := by
          cases hb : Nat.testBit (Aof ops.toList j) i with
          | false => rfl
          | true => exact (hLi (hanc i hb)).elim
        obtain ⟨n1, vs1, n2, vs2, F1, F2, o1, o2, di, dj, hlast⟩ := hT.pair hij hj hiE hjE hb
        rw [hd] at dj
        cases dj
        have hFs : F = storeF n2 vs2 := f4 n2 vs2 rfl
        have hmid : ∀ e, i < e → e < j → isE (dd e) = false := by
          intro e h1 h2
          cases hE : isE (dd e) with
          | false => rfl
          | true => have := hT.plan.lt i (hlast e (by omega) (by omega) (by omega) (E_notQ hE)).1; omega
        obtain ⟨l, hl⟩ := hT.hist_head di j (by omega) hij hmid
        rw [hl] at f3
        have hap : apart2 (lay (Aof ops.toList i) (st i).pend (st i).h) n1 vs1 n2 vs2 = true := by
          have f3 : (Bool.rec (apart2 (lay (Aof ops.toList i) (st i).pend (st i).h) n1 vs1 n2 vs2) true (Nat.testBit (Aof ops.toList j) i) : Bool) = true := f3
          rw [hb] at f3
          exact f3
        obtain ⟨q', q2, hs1, hs2, hne⟩ := apart2_some hap
        have hqi : q ≤ i := by
          rcases Nat.lt_or_ge i q with h | h
          · exact (hLi ((pos i (by omega) hiE).2 h)).elim
          · exact h
        have hst : ∀ e, q ≤ e → e < i → isE (dd e) = false := by
          intro e h1 h2
          cases hE : isE (dd e) with
          | false => rfl
          | true =>
            have := hanc e (hlast e (by omega) (by omega) (by omega) (E_notQ hE)).2
            have := (pos e (by omega) hE).1 this
            omega
        have hhe := hT.h_same hqi (by omega) hst
        have hsub : ∀ r ob, (lay (Aof ops.toList i) (st i).pend (st i).h).get r = some ob → GL ops.toList ops.size st dd L q r = some ob := by
          intro r ob hr
          refine hT.lay_sub hhe.symm (fun p hp hbp => ?_) r ob hr dis
          obtain ⟨p1, p2, p3, p4⟩ := (hT.pend i (by omega) p).1 hp
          refine ⟨by omega, hanc _ (hlast p.i (by omega) (by omega) (by omega) (by rw [p2]; rfl)).2, (flt_still hqi hst).1 p4, p2, p3⟩
        have hRk : R val ρ (lay (Aof ops.toList i) (st i).pend (st i).h).get (lay (Aof ops.toList i) (st i).pend (st i).h).next w := by
          have := hm.r.sub hsub
          rw [← hhe] at this
          rw [lay_next]
          exact this
        refine htell ρ a w _ Q _ _ _ hopv (hG.ext I.ext) hRk (by rw [hFs]; exact hs1) fun ρ' u w' hV hR' hM => ?_
        rw [lay_next] at hM
        have hv : q'.1 = tv j := by
          obtain ⟨_, _, _, _, _, _, _, _, e1⟩ := storeF_some hs1
          have f1' := f1
          rw [hFs] at f1'
          obtain ⟨_, _, _, _, _, _, _, _, e2⟩ := storeF_some f1'
          rw [e1]
          injection e2 with e2
          exact e2.symm
        rw [hv] at hV
        refine ⟨ρ', hcl', hT.slots_put hN hs ho hL I.slots hM.ext hV, I.ext.trans hM.ext, ?_, ?_⟩
        · intro k hk hn
          cases hr : ρ' (st k).res with
          | none => rfl
          | some Lx =>
            have h1 := (hM.new _ Lx (I.unb k hk fun h => hn (.inr h)) hr).1
            have h2 := hT.res_lt hk
            have h3 := hm.up
            rw [hhe] at h1
            omega
        · refine .swap i j n1 n2 vs1 vs2 F1 F o1 out q' q2 hij hj di hd ?_ ?_ ?_ hs1 hs2 hne ⟨hR', ?_, ?_⟩
          · rintro (h | h)
            · omega
            · exact hLi h
          · intro k hk hki hkq
            by_cases e : k = j
            · exact .inl e
            · exact .inr (hanc k (hlast k hk hki e hkq).2)
          · exact fun k hk hki hkj hkq => (hlast k hk hki hkj hkq).1
          · exact (hm.mv.sub hsub).trans (hM.low (by have := hm.up; rw [hhe]; omega))
          · have := hM.up
            have := hm.up
            rw [hhe] at *
            omega
    | swap i j' n1 n2 vs1 vs2 F1 F2 o1 o2 q q2 hij hj' di dj li rest last hs1 hs2 hne hm =>
      -- the earlier one of two stores comes last
      have hji : j = i := Classical.byContradiction fun h => hL (rest j hj h (E_notQ hjE))
      subst hji
      rw [hd] at di
      cases di
      have hFs : F = storeF n1 vs1 := f4 n1 vs1 rfl
      obtain ⟨oj', hoj'⟩ := at_lt hj'
      have fj := (hT.step j' oj' hoj').2.1
      rw [dj] at fj
      obtain ⟨g1, _, _, g4, _⟩ := fj
      have hF2 : F2 = storeF n2 vs2 := g4 n2 vs2 rfl
      rw [hF2] at g1
      rw [hFs] at f1
      have hmid : ∀ e, j + 1 ≤ e → e < j' → isE (dd e) = false := by
        intro e h1 h2
        cases hE : isE (dd e) with
        | false => rfl
        | true => have := hT.plan.lt j (last e (by omega) (by omega) (by omega) (E_notQ hE)); omega
      have hpend : ∀ p ∈ (st j').pend, Nat.testBit (Aof ops.toList j') p.i = true → False := by
        intro p hp _
        obtain ⟨p1, p2, p3, p4⟩ := (hT.pend j' (by omega) p).1 hp
        have hb := last p.i (by omega) (by rintro h; rw [h, hd] at p2; cases p2) (by omega) (by rw [p2]; rfl)
        rw [p4 j hij hjE] at hb
        cases hb
      have hlay : ∀ r, (lay (Aof ops.toList j') (st j').pend (st j').h).get r = out.get r := by
        intro r
        rw [lay_none fun p hp hb => (hpend p hp hb).elim, hT.h_same (q := j + 1) (by omega) (by omega) hmid, hT.h_eff hj hd]
      -- the second store in the text's order, over the first one's memory
      obtain ⟨r2, off2, v2, c2, c2', e2, k2, k3, k4⟩ := storeF_some g1
      rw [hlay] at k2
      have g1' : storeF n2 vs2 out = some (.tup [], out.put r2 (.row false c2')) := by
        subst e2
        exact storeF_mk k2 k3 (storeF_beq g1)
      obtain ⟨hget, hn1, hn2, hv1, _, _, hv4⟩ := store_comm f1 g1' hs1 hs2 hne
      have ho2 : o2.get = (out.put r2 (.row false c2')).get ∧ o2.next = out.next := by
        have : o2 = (lay (Aof ops.toList j') (st j').pend (st j').h).put r2 (.row false c2') := by
          injection k4
        rw [this]
        constructor
        · rw [Hp.get_put, Hp.get_put]
          congr 1
          funext r
          exact hlay r
        · show (lay (Aof ops.toList j') (st j').pend (st j').h).next = _
          rw [lay_next, hT.h_same (q := j + 1) (by omega) (by omega) hmid, hT.h_eff hj hd]
      refine htell ρ a w _ Q _ _ _ hopv (hG.ext I.ext) hm.r (by rw [hFs]; exact hs2) fun ρ' u w' hV hR' hM => ?_
      rw [hv4, ← hv1] at hV
      have hnofl : ∀ k ob, k < ops.size → dd k = .new ob → ¬ flt ops.toList dd (j' + 1) k := by
        intro k ob hk hn hf
        have hb := last k hk (by rintro rfl; rw [hd] at hn; cases hn) (by rintro rfl; rw [dj] at hn; cases hn) (by rw [hn]; rfl)
        rw [hf j (by omega) hjE] at hb
        cases hb
      have hGn : GL ops.toList ops.size st dd (fun k => k = j ∨ L k) (j' + 1) = q2.2.get := by
        unfold GL
        rw [hT.h_eff hj' dj, ← hget, ← ho2.1]
        funext r
        rw [hT.flo_none.2 fun k ob h1 h2 h3 => (hnofl k ob h1 h3 h2.2).elim]
        rfl
      refine ⟨ρ', hcl', hT.slots_put hN hs ho hL I.slots hM.ext hV, I.ext.trans hM.ext, ?_, ?_⟩
      · intro k hk hn
        cases hr : ρ' (st k).res with
        | none => rfl
        | some Lx =>
          have h1 := (hM.new _ Lx (I.unb k hk fun h => hn (.inr h)) hr).1
          have h2 := hT.res_lt hk
          have h3 := hm.up
          omega
      · refine .line (j' + 1) (by omega) ?_ ?_ ?_
        · intro e he hE
          constructor
          · rintro (rfl | h)
            · omega
            · rcases Nat.lt_or_ge j' e with h' | h'
              · have := hT.plan.lt j (last e he (by omega) (by omega) (E_notQ hE)); omega
              · omega
          · intro _
            by_cases e' : e = j
            · exact .inl e'
            · exact .inr (rest e he e' (E_notQ hE))
        · intro k ob hk _ hf hn
          exact (hnofl k ob hk hn hf).elim
        · rw [hGn, hT.h_eff hj' dj]
          have hnx : o2.next = q2.2.next := by rw [ho2.2, hn2]; exact hn1
          rw [hnx]
          refine ⟨hR', hm.mv.trans (hM.low (by have := hm.up; omega)), ?_⟩
          have := hM.up
          have := hm.up
          omega
end
end Go.Ev
