/- What is told of whole functions; from the interpreter to a law's walk. -/
import Derived.Test.YtgchblfkmgnaeaaGreatDoorEv1
import Derived.Below
import Derived.KernelRfl
set_option linter.unusedVariables false
set_option linter.unusedSimpArgs false
set_option linter.unusedSectionVars false
namespace Go.Ev
open Go.RowKit (Below)

variable {P : Program} {val : Nat → Value} {ρ ρ' : Rho}

/-! Functions without a body. -/
noncomputable def ngB (P : Program) : Bool := P.funcs.toList.all fun fn => !(fn.name == "runtime.NumGoroutine")
theorem ngB_ok (h : ngB P = true) : ∀ (f : Nat) (fn : Func), P.funcs[f]? = some fn → (fn.name == "runtime.NumGoroutine") = false := by
  intro f fn hf
  have := List.all_eq_true.1 h fn (by rw [Array.mem_toList_iff]; exact Array.mem_of_getElem? hf)
  simpa using this
noncomputable def xtB (P : Program) : Bool := P.funcs.toList.all fun fn => match fn.body with
  | some _ => true
  | none => ["internal/bytealg.CountString", "internal/bytealg.IndexByteString", "internal/bytealg.abigen_runtime_cmpstring"].all (fun n => !(fn.name == n)) || fn.origin == fn.name || fn.origin == ""
theorem next_none (x : Xt) : Extern.allNextRows.lookup (xtName x) = none := by cases x <;> kernel_rfl
theorem next_empty : Extern.allNextRows.lookup "" = none := by kernel_rfl
theorem gen_none (x : Xt) : Extern.allGenericRows.lookup (xtName x) = none := by cases x <;> kernel_rfl
theorem typed_none (x : Xt) : Extern.allTypedRows.lookup (xtName x) = none := by cases x <;> kernel_rfl
theorem rows_some (x : Xt) : Extern.allRows.lookup (xtName x) = some (xtRow x) := by cases x <;> kernel_rfl
theorem xtB_ok (h : xtB P = true) : XtOk P := by
  intro f fn x hf hb hn
  have := List.all_eq_true.1 h fn (by rw [Array.mem_toList_iff]; exact Array.mem_of_getElem? hf)
  simp only [hb, Bool.or_eq_true, beq_iff_eq] at this
  have ho : fn.origin = fn.name ∨ fn.origin = "" := by
    rcases this with (h1 | h1) | h1
    · have := List.all_eq_true.1 h1 (xtName x) (by cases x <;> simp [xtName])
      simp [hn] at this
    · exact .inl h1
    · exact .inr h1
  constructor
  · unfold Extern.findNext
    simp only [hn, next_none]
    rcases ho with h1 | h1
    · rw [h1, hn, next_none]; rfl
    · rw [h1, next_empty]; rfl
  · unfold Extern.find
    simp only [hn, gen_none, typed_none, rows_some]
    rfl

/-! Values that lead nowhere. -/
noncomputable def plainAV (x : AV) : Bool := isO (asInt x) || isO (asStr x) || isO (asBool x)
theorem V_plain {a : AV} {v : Value} (h : plainAV a = true) (hV : V val ρ a v) : V val ρ' a v := by
  unfold plainAV at h
  simp only [Bool.or_eq_true] at h
  rcases h with (h | h) | h
  · obtain ⟨p, hp⟩ := isO_some h
    rw [asInt_some] at hp
    subst hp
    rw [V_int] at hV ⊢
    exact hV
  · obtain ⟨p, hp⟩ := isO_some h
    rw [asStr_some] at hp
    subst hp
    rw [V_str] at hV ⊢
    exact hV
  · obtain ⟨p, hp⟩ := isO_some h
    rw [asBool_some] at hp
    subst hp
    rw [V_bool] at hV ⊢
    exact hV
theorem ObR_plain {L : Loc} {heap : Array Obj} {ro : Bool} {cs : List AV} (h : cs.all plainAV = true) (hO : ObR val ρ L heap (.row ro cs)) : ObR val ρ' L heap (.row ro cs) := by
  obtain ⟨h0, c, e, f, h1, h2, h3, h4, h5⟩ := hO
  refine ⟨h0, c, e, f, h1, h2, h3, fun i a hi => ?_, h5⟩
  obtain ⟨v, hv, hV⟩ := h4 i a hi
  exact ⟨v, hv, V_plain (List.all_eq_true.1 h a (List.mem_of_getElem? hi)) hV⟩

/-! A function that tells a new row of plain things at one text. -/
noncomputable def memoF (g : Id) (tab : Ob) (n0 l0 : Nat) (cells : List AV) : List AV → Hp → Option (AV × Hp) := fun as h =>
  Option.rec none (fun x => Option.rec none (fun s => Bool.rec none (Bool.rec none (some (.slc h.next 0 (lenL cells) 1 none, h.new (.row false cells))) (optEq obEq (h.get g) (some tab))) (sEq s.1 s.2 n0 l0)) (asStr x)) (list1 as)
noncomputable def memo (f0 : Nat) (g : Id) (tab : Ob) (n0 l0 : Nat) (cells : List AV) : Sum := fun f => Bool.rec none (some (memoF g tab n0 l0 cells)) (Nat.beq f f0)
noncomputable def memoOk (b0 : Id) (cells : List AV) (r : Option (AV × Hp)) : Bool := match r with
  | some (.slc r off len sz _, h) => Nat.beq off 0 && Nat.beq sz 1 && Nat.beq len (lenL cells) && Nat.blt (idCmp b0 r) 2 && optEq obEq (h.get r) (some (.row false cells))
  | _ => false

/-- A call in a memory of one table alone, where that table stands in a greater memory: what it tells; the elder memory stays. -/
theorem small_call {cf : CallF} {f : Nat} {g b0 : Id} {tcs : List AV} {as : List AV} {v : AV} {ph : Hp} (hC : CallOk P val cf) (hc : cf f as ⟨Tr.set .nil g (.row true tcs), b0⟩ = some (v, ph)) (hg : num g < num b0) (hgl : P.globals.size ≤ num b0)
    (htab : tcs.all plainAV = true) (has : as.all plainAV = true) {h : Hp} {ρ : Rho} {args : Array Value} {w : World} (hgt : h.get g = some (.row true tcs)) (hG : Gl P ρ) (hV : Vs val ρ as args.toList) (hR : R val ρ h.get h.next w) :
    FnOk P f args w fun u w' => ∃ ρ1, V val ρ1 v u ∧ R val ρ1 ph.get ph.next w' ∧ (∀ b, b < w.heap.size → w'.heap[b]? = w.heap[b]?) ∧ (∀ r L, num b0 ≤ num r → ρ1 r = some L → w.heap.size ≤ L.blk) ∧ w'.os = w.os ∧ w'.tape = w.tape ∧ w'.output = w.output ∧ w.heap.size ≤ w'.heap.size := by
  let ρ1 : Rho := fun r => if num r < num b0 then ρ r else none
  have hr1 : ∀ r, num r < num b0 → ρ1 r = ρ r := fun r h => if_pos h
  have hG1 : Gl P ρ1 := fun i hi => by
    rw [hr1 _ (by rw [num_pth]; omega)]
    exact hG i hi
  have hget : ∀ r o, (Hp.mk (Tr.set .nil g (.row true tcs)) b0).get r = some o → r = g ∧ o = .row true tcs := by
    intro r o ho
    have ho : (Tr.set .nil g (Ob.row true tcs)).get r = some o := ho
    rw [Tr.get_set] at ho
    split at ho
    · cases ho; exact ⟨‹_›, rfl⟩
    · cases ho
  have hR1 : R val ρ1 (Hp.mk (Tr.set .nil g (.row true tcs)) b0).get (Hp.mk (Tr.set .nil g (.row true tcs)) b0).next w := by
    refine ⟨?_, ?_, ?_⟩
    · intro r o ho
      obtain ⟨rfl, rfl⟩ := hget r o ho
      obtain ⟨L, hL, hO⟩ := hR.ob r _ hgt
      exact ⟨L, by rw [hr1 _ hg]; exact hL, ObR_plain htab hO⟩
    · intro r r' o o' L L' h1 h2 hne
      exact (hne ((hget r o h1).1.trans (hget r' o' h2).1.symm)).elim
    · intro r hr
      exact if_neg (by have hr : num b0 ≤ num r := hr; omega)
  have hV1 : Vs val ρ1 as args.toList := by
    refine Vs_of_get (Vs_len hV) fun i a hi => ?_
    obtain ⟨x, hx, hVx⟩ := Vs_get hV hi
    exact ⟨x, hx, V_plain (List.all_eq_true.1 has a (List.mem_of_getElem? hi)) hVx⟩
  have ro : ∀ r0 o0 L0, (Hp.mk (Tr.set .nil g (.row true tcs)) b0).get r0 = some o0 → ρ1 r0 = some L0 → L0.ro = false → False := by
    intro r0 o0 L0 g1 g2 g3
    obtain ⟨rfl, rfl⟩ := hget r0 o0 g1
    obtain ⟨L1, hL1, hO⟩ := hR1.ob r0 _ g1
    rw [g2] at hL1
    cases hL1
    rw [hO.1] at g3
    cases g3
  have hcall := hC _ _ _ _ _ hc ρ1 args w hG1 hV1 hR1
  have key : ∀ (u : Value) (w' : World), (∃ ρ1', V val ρ1' v u ∧ R val ρ1' ph.get ph.next w' ∧ Mv ρ1 (Hp.mk (Tr.set .nil g (.row true tcs)) b0).get b0 w ρ1' ph.get ph.next w') →
      ∃ ρ1, V val ρ1 v u ∧ R val ρ1 ph.get ph.next w' ∧ (∀ b, b < w.heap.size → w'.heap[b]? = w.heap[b]?) ∧ (∀ r L, num b0 ≤ num r → ρ1 r = some L → w.heap.size ≤ L.blk) ∧ w'.os = w.os ∧ w'.tape = w.tape ∧ w'.output = w.output ∧ w.heap.size ≤ w'.heap.size := by
    rintro u w' ⟨ρ1', hu, hR', hM⟩
    refine ⟨ρ1', hu, hR', fun b hb => hM.block b hb fun r0 o0 L0 g1 g2 g3 => (ro r0 o0 L0 g1 g2 g3).elim, ?_, hM.os, hM.tape, hM.output, hM.size⟩
    intro r L hnr hL
    rcases (hM.new r L (if_neg (by omega)) hL).2 with h | ⟨r0, o0, L0, g1, g2, g3, _⟩
    · exact h
    · exact (ro r0 o0 L0 g1 g2 g3).elim
  unfold FnOk at hcall ⊢
  split at hcall
  · exact key _ _ hcall
  · exact Calls.mono hcall fun e w' he => let ⟨u, e1, e2⟩ := he; ⟨u, e1, key u w' e2⟩
  · exact hcall
theorem FnOk.mono {f : Nat} {args : Array Value} {w : World} {K K' : Value → World → Prop} (h : FnOk P f args w K) (hk : ∀ u w', K u w' → K' u w') : FnOk P f args w K' := by
  unfold FnOk at h ⊢
  split at h
  · exact hk _ _ h
  · exact Calls.mono h fun e w' he => let ⟨u, e1, e2⟩ := he; ⟨u, e1, hk u w' e2⟩
  · exact h

theorem memo_ok {cf : CallF} {f0 : Nat} {g b0 : Id} {tcs cells : List AV} {n0 l0 : Nat} (hC : CallOk P val cf) (hrun : memoOk b0 cells (cf f0 [.str n0 l0] ⟨Tr.set .nil g (.row true tcs), b0⟩) = true)
    (hg : num g < num b0) (hgl : P.globals.size ≤ num b0) (htab : tcs.all plainAV = true) (hcells : cells.all plainAV = true) : SumOk P val (memo f0 g (.row true tcs) n0 l0 cells) := by
  intro f s hs as h v h' hm ρ args w hG hV hR
  have hf : f = f0 ∧ s = memoF g (.row true tcs) n0 l0 cells := by
    unfold memo at hs
    cases hb : Nat.beq f f0 with
    | false => rw [hb] at hs; cases hs
    | true => rw [hb] at hs; cases hs; exact ⟨Nat.eq_of_beq_eq_true hb, rfl⟩
  obtain ⟨rfl, rfl⟩ := hf
  obtain ⟨x, hx, hm⟩ := orec_some hm
  obtain ⟨q, hq, hm⟩ := orec_some hm
  obtain ⟨h1, hm⟩ := brec_true hm
  obtain ⟨h2, hm⟩ := brec_true hm
  cases hm
  rw [asStr_some] at hq
  subst hq
  rw [list1_some hx] at hV
  have hV0 : Vs val ρ [.str n0 l0] args.toList := by
    have h1 : sEq q.1 q.2 n0 l0 = true := h1
    unfold sEq at h1
    cases hb : Nat.beq q.2 l0 with
    | false => rw [hb] at h1; cases h1
    | true =>
      rw [hb] at h1
      rw [← Nat.eq_of_beq_eq_true hb, ← Nat.eq_of_beq_eq_true (show Nat.beq q.1 n0 = true from h1)]
      exact hV
  have hgt := optEq_iff (fun _ _ => obEq_eq) h2
  cases hc : cf f [.str n0 l0] ⟨Tr.set .nil g (.row true tcs), b0⟩ with
  | none => rw [hc] at hrun; cases hrun
  | some p =>
    obtain ⟨pv, ph⟩ := p
    rw [hc] at hrun
    cases pv with
    | slc r off len sz cap =>
      simp only [memoOk, Bool.and_eq_true, Nat.beq_eq] at hrun
      obtain ⟨⟨⟨⟨k1, k2⟩, k3⟩, k4⟩, k5⟩ := hrun
      subst k1 k2 k3
      have hrow := optEq_iff (fun _ _ => obEq_eq) k5
      have hnr : num b0 ≤ num r := by
        obtain ⟨s1, s2, _⟩ := idCmp_spec b0 r
        have k4 : idCmp b0 r < 2 := by simpa [Nat.blt_eq] using k4
        rcases Nat.lt_or_ge 0 (idCmp b0 r) with h | h
        · exact s2 (by omega)
        · exact s1 (by omega)
      refine (small_call hC hc hg hgl htab (by simp [plainAV, asStr, asInt, isO]) hgt hG hV0 hR).mono ?_
      rintro u w' ⟨ρ1, hu, hR', hold, hnew, hos, htp, hout, hsz⟩
      obtain ⟨L, a, c, hL, rfl, hle, _, hc0⟩ := V_slc.1 hu
      have hid : ρ h.next = none := hR.fr _ (Nat.le_refl _)
      have hblk := hnew r L hnr hL
      have hx : Ext ρ (upd ρ h.next L) := Ext.upd hid
      obtain ⟨L1, hL1, hO⟩ := hR'.ob r _ hrow
      rw [hL] at hL1
      cases hL1
      have hne : ∀ k K, ρ k = some K → k ≠ h.next := by rintro k K hk rfl; rw [hid] at hk; cases hk
      refine ⟨upd ρ h.next L, V_slc.2 ⟨L, a, c, upd_self _ _ _, rfl, hle, (fun k hk => by cases hk), hc0⟩, ⟨?_, ?_, ?_⟩, ⟨hx, ?_, ?_, ?_, hos, htp, hout, hsz, fun b hb _ => hold b hb⟩⟩
      · intro k o hk
        rw [Hp.get_new] at hk
        by_cases e : k = h.next
        · subst e
          rw [upd_self] at hk
          cases hk
          exact ⟨L, upd_self _ _ _, ObR_plain hcells hO⟩
        · rw [upd_ne e] at hk
          obtain ⟨K, hK, hO'⟩ := hR.ob k o hk
          exact ⟨K, hx _ _ hK, hO'.mono hx (hold _ hO'.lt)⟩
      · have old : ∀ k o K, k ≠ h.next → (h.new (.row false cells)).get k = some o → upd ρ h.next L k = some K → h.get k = some o ∧ ρ k = some K ∧ K.blk < w.heap.size := by
          intro k o K e hk hK
          rw [Hp.get_new, upd_ne e] at hk
          rw [upd_ne e] at hK
          obtain ⟨K', hK', hO'⟩ := hR.ob k o hk
          rw [hK] at hK'
          cases hK'
          exact ⟨hk, hK, hO'.lt⟩
        intro k k' o o' K K' hk hk' hkk hK hK' heq
        by_cases e : k = h.next
        · have e' : k' ≠ h.next := fun q => hkk (e.trans q.symm)
          obtain ⟨_, _, h3⟩ := old k' o' K' e' hk' hK'
          rw [e, upd_self] at hK
          cases hK
          omega
        · obtain ⟨g1, g2, g3⟩ := old k o K e hk hK
          by_cases e' : k' = h.next
          · rw [e', upd_self] at hK'
            cases hK'
            omega
          · obtain ⟨g4, g5, _⟩ := old k' o' K' e' hk' hK'
            exact hR.ap k k' o o' K K' g1 g4 hkk g2 g5 heq
      · intro k hk
        have hk : num (inc h.next) ≤ num k := hk
        rw [num_inc] at hk
        rw [upd_ne (by rintro rfl; omega)]
        exact hR.fr k (by omega)
      · show num h.next ≤ num (inc h.next)
        rw [num_inc]; omega
      · intro k K g1 g2
        by_cases e : k = h.next
        · subst e
          rw [upd_self] at g2
          cases g2
          exact ⟨Nat.le_refl _, .inl hblk⟩
        · rw [upd_ne e, g1] at g2
          cases g2
      · intro k o K g1 g2
        rw [Hp.get_new, upd_ne (hne k K g2)] at g1
        exact ⟨o, g1⟩
    | _ => cases hrun

/-! A function without arguments that answers true, whatever it leaves in memory. -/
def isT (o : Option (AV × Hp)) : Bool := match o with | some (.bool true, _) => true | _ => false
theorem isT_some {o : Option (AV × Hp)} (h : isT o = true) : ∃ h', o = some (.bool true, h') := by
  unfold isT at h
  split at h
  · exact ⟨_, rfl⟩
  · cases h
noncomputable def yesF (g : Id) (tab : Ob) : List AV → Hp → Option (AV × Hp) := fun as h => List.rec (Bool.rec none (some (.bool true, h)) (optEq obEq (h.get g) (some tab))) (fun _ _ _ => none) as
noncomputable def yes (f0 : Nat) (g : Id) (tab : Ob) : Sum := fun f => Bool.rec none (some (yesF g tab)) (Nat.beq f f0)
theorem yes_ok {cf : CallF} {f0 : Nat} {g b0 : Id} {tcs : List AV} (hC : CallOk P val cf) (hrun : isT (cf f0 [] ⟨Tr.set .nil g (.row true tcs), b0⟩) = true) (hg : num g < num b0) (hgl : P.globals.size ≤ num b0) (htab : tcs.all plainAV = true) :
    SumOk P val (yes f0 g (.row true tcs)) := by
  intro f s hs as h v h' hm ρ args w hG hV hR
  have hf : f = f0 ∧ s = yesF g (.row true tcs) := by
    unfold yes at hs
    cases hb : Nat.beq f f0 with
    | false => rw [hb] at hs; cases hs
    | true => rw [hb] at hs; cases hs; exact ⟨Nat.eq_of_beq_eq_true hb, rfl⟩
  obtain ⟨rfl, rfl⟩ := hf
  cases as with
  | cons a l => cases hm
  | nil =>
    obtain ⟨h2, hm⟩ := brec_true hm
    cases hm
    have hgt := optEq_iff (fun _ _ => obEq_eq) h2
    obtain ⟨ph, hc⟩ := isT_some hrun
    refine (small_call hC hc hg hgl htab rfl hgt hG hV hR).mono ?_
    rintro u w' ⟨ρ1, hu, _, hold, _, hos, htp, hout, hsz⟩
    rw [V_bool] at hu
    subst hu
    refine ⟨ρ, V_bool.2 rfl, ⟨?_, hR.ap, hR.fr⟩, ⟨Ext.refl _, Nat.le_refl _, (fun r L h1 h2 => by rw [h1] at h2; cases h2), fun r o L h1 _ => ⟨o, h1⟩, hos, htp, hout, hsz, fun b hb _ => hold b hb⟩⟩
    intro r o hr
    obtain ⟨L, hL, hO⟩ := hR.ob r o hr
    exact ⟨L, hL, hO.mono (Ext.refl _) (hold _ hO.lt)⟩
noncomputable def orSum (s t : Sum) : Sum := fun f => Option.rec (t f) (fun x => some x) (s f)
theorem orSum_ok {s t : Sum} (h1 : SumOk P val s) (h2 : SumOk P val t) : SumOk P val (orSum s t) := by
  intro f x hx
  rcases orec_or (show (Option.rec (t f) (fun x => some x) (s f) : Option _) = some x from hx) with ⟨_, hx⟩ | ⟨y, hy, hx⟩
  · exact h2 f x hx
  · cases hx; exact h1 f _ hy

/-! A law's walk. -/
theorem calls_of_fn {f : Nat} {fn : Func} {args : Array Value} {w : World} {K : Value → World → Prop} (hfn : P.funcs[f]? = some fn) (hb : fn.body.isSome = true) (hn : (fn.name == "runtime.NumGoroutine") = false) (h : FnOk P f args w K) :
    Calls P f args w fun e w' => ∃ u, e = .returned u ∧ K u w' := by
  obtain ⟨c, hc⟩ := Option.isSome_iff_exists.1 hb
  have hrun : (callFunc f args).run P w = .ok (.enter f args) w := by
    have h1 : fn.name ≠ "runtime.NumGoroutine" := by simpa using hn
    simp [callFunc, hfn, h1, hc]
  unfold FnOk at h
  rw [hrun] at h
  exact h
theorem below_of {h h' : Hp} {w w' : World} (hro : ∀ r o, h.get r = some o → ∃ cs, o = .row true cs) (hR : R val ρ h.get h.next w) (hM : Mv ρ h.get h.next w ρ' h'.get h'.next w') : Below w.heap.size w w' := by
  refine ⟨hM.os, hM.tape, hM.output, hM.size, fun k hk => hM.block k hk fun r o L g1 g2 g3 => ?_⟩
  obtain ⟨cs, rfl⟩ := hro r o g1
  obtain ⟨L1, hL1, hO⟩ := hR.ob r _ g1
  rw [g2] at hL1
  cases hL1
  rw [hO.1] at g3
  cases g3
theorem law_walk {cf : CallF} (hC : CallOk P val cf) {f : Nat} {fn : Func} {as : List AV} {args : Array Value} {h : Hp} {w : World} (hfn : P.funcs[f]? = some fn) (hb : fn.body.isSome = true) (hn : (fn.name == "runtime.NumGoroutine") = false) (hG : Gl P ρ)
    (ha : Vs val ρ as args.toList) (hR : R val ρ h.get h.next w) (hro : ∀ r o, h.get r = some o → ∃ cs, o = .row true cs) (hc : isT (cf f as h) = true) : Calls P f args w fun e w' => e = .returned (.bool true) ∧ Below w.heap.size w w' := by
  obtain ⟨h', hc⟩ := isT_some hc
  refine (calls_of_fn hfn hb hn (hC _ _ _ _ _ hc ρ args w hG ha hR)).mono fun e w' he => ?_
  obtain ⟨u, rfl, ρ', hV, _, hM⟩ := he
  rw [V_bool] at hV
  subst hV
  exact ⟨rfl, below_of hro hR hM⟩

/-- The memory that a law begins in: one table that is only read. -/
noncomputable def hp0 (g n : Nat) (cs : List AV) : Hp := ⟨Tr.set .nil (pth g) (.row true cs), pth n⟩
noncomputable def rho0 (P : Program) (size : Nat → Nat) : Rho := fun r => if num r < P.globals.size then some ⟨num r, 0, size (num r), true⟩ else none
theorem rho0_gl (size : Nat → Nat) : Gl P (rho0 P size) := fun g hg => ⟨⟨g, 0, size g, true⟩, by simp [rho0, num_pth, hg], rfl, rfl⟩
theorem hp0_get {g n : Nat} {cs : List AV} {r : Id} {o : Ob} (h : (hp0 g n cs).get r = some o) : r = pth g ∧ o = .row true cs := by
  have ho : (Tr.set .nil (pth g) (Ob.row true cs)).get r = some o := h
  rw [Tr.get_set] at ho
  split at ho
  · cases ho; exact ⟨‹_›, rfl⟩
  · cases ho
theorem hp0_R {g n : Nat} {cs : List AV} {w : World} {c : Array Value} {e : TypeId} {f : Nat × Nat} (hg : g < P.globals.size) (hn : P.globals.size ≤ n) (hw : w.heap[g]? = some (.cells c e f)) (hl : cs.length ≤ c.size) (hcs : ∀ (i : Nat) a, cs[i]? = some a → ∃ v, c[i]? = some v ∧ V val (rho0 P fun _ => c.size) a v) :
    R val (rho0 P fun _ => c.size) (hp0 g n cs).get (hp0 g n cs).next w := by
  refine ⟨?_, ?_, ?_⟩
  · intro r o ho
    obtain ⟨rfl, rfl⟩ := hp0_get ho
    refine ⟨⟨g, 0, c.size, true⟩, by simp [rho0, num_pth, hg], rfl, c, e, f, hw, rfl, by simpa using hl, fun i a hi => ?_, fun h => by cases h⟩
    obtain ⟨v, hv, hV⟩ := hcs i a hi
    exact ⟨v, by simpa using hv, hV⟩
  · intro r r' o o' L L' h1 h2 hne
    exact (hne ((hp0_get h1).1.trans (hp0_get h2).1.symm)).elim
  · intro r hr
    have hr : num (pth n) ≤ num r := hr
    rw [num_pth] at hr
    exact if_neg (by omega)
end Go.Ev
