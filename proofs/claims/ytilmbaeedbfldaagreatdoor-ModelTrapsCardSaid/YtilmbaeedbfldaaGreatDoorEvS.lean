/- Loops and calls. -/
import Derived.Test.YtilmbaeedbfldaaGreatDoorEvQ
set_option linter.unusedVariables false
set_option linter.unusedSimpArgs false
set_option linter.unusedSectionVars false
namespace Go.Ev

variable {P : Program} {val : Nat → Value} {ρ : Rho}

theorem ofArgs_get : ∀ (l : List AV) (i : Nat) (t : T) (d : Nat), (ofArgs l (pth i) t).get (pth d) = if i ≤ d ∧ d < i + l.length then l[d - i]? else t.get (pth d)
  | [], i, t, d => by rw [if_neg (by simp)]; rfl
  | a :: l, i, t, d => by
    have e : ofArgs (a :: l) (pth i) t = ofArgs l (pth (i + 1)) (t.set (pth i) a) := rfl
    rw [e, ofArgs_get l (i + 1) _ d, Tr.get_set]
    simp only [List.length_cons]
    by_cases h1 : i + 1 ≤ d ∧ d < i + 1 + l.length
    · rw [if_pos h1, if_pos (by omega)]
      have : d - i = (d - (i + 1)) + 1 := by omega
      rw [this]; rfl
    · rw [if_neg h1]
      by_cases h2 : d = i
      · subst h2
        rw [if_pos rfl, if_pos (by omega)]
        simp
      · rw [if_neg (fun k => h2 (pth_inj k)), if_neg (by omega)]

/-- Functions without a body that the interpreter knows. -/
def xtName : Xt → String
  | .count => "internal/bytealg.CountString"
  | .index => "internal/bytealg.IndexByteString"
  | .cmp => "internal/bytealg.abigen_runtime_cmpstring"
def xtRow : Xt → Array Value → Sem Value
  | .count => Extern.BytealgCount.count
  | .index => Extern.BytealgIndexByte.indexByte
  | .cmp => Extern.BytealgCompare.compare
def XtOk (P : Program) : Prop := ∀ (f : Nat) (fn : Func) (x : Xt), P.funcs[f]? = some fn → fn.body = none → fn.name = xtName x → Extern.findNext fn = none ∧ Extern.find fn = some (xtRow x)
/-- What is told of whole functions. -/
def SumOk (P : Program) (val : Nat → Value) (sum : Sum) : Prop := ∀ f s, sum f = some s → ∀ as h v h', s as h = some (v, h') → ∀ ρ args w, Gl P ρ → Vs val ρ as args.toList → R val ρ h.get h.next w →
  FnOk P f args w fun u w' => ∃ ρ', V val ρ' v u ∧ R val ρ' h'.get h'.next w' ∧ Mv ρ h.get h.next w ρ' h'.get h'.next w'
theorem noSum_ok : SumOk P val noSum := fun _ _ h => by cases h

theorem countOf_eq (c : Nat) (hc : c < 256) : ∀ l : List UInt8, countOf c l.length (enc l) = Lib.countByte l (UInt8.ofNat c)
  | [] => rfl
  | b :: l => by
    have e : countOf c (b :: l).length (enc (b :: l)) = Bool.rec (countOf c l.length (Nat.div (enc (b :: l)) 256)) (Nat.succ (countOf c l.length (Nat.div (enc (b :: l)) 256))) (Nat.beq (Nat.mod (enc (b :: l)) 256) c) := rfl
    have hb := byte_lt b
    have h1 : Nat.mod (enc (b :: l)) 256 = b.toNat := by show (b.toNat + 256 * enc l) % 256 = _; omega
    have h2 : Nat.div (enc (b :: l)) 256 = enc l := by show (b.toNat + 256 * enc l) / 256 = _; omega
    rw [e, h1, h2, countOf_eq c hc l]
    unfold Lib.countByte
    rw [List.count_cons]
    have h3 : Nat.beq b.toNat c = (b == UInt8.ofNat c) := by
      rw [Bool.eq_iff_iff, Nat.beq_eq, beq_iff_eq, ← UInt8.toNat_inj]
      have : (UInt8.ofNat c).toNat = c := by simp; omega
      rw [this]
    rw [h3]
    cases b == UInt8.ofNat c <;> rfl
theorem idxOf_eq (c : Nat) (hc : c < 256) : ∀ (l : List UInt8) (i : Nat), idxOf c l.length (enc l) i = if Lib.indexByte l (UInt8.ofNat c) = -1 then -1 else Lib.indexByte l (UInt8.ofNat c) + i
  | [], i => by rfl
  | b :: l, i => by
    have e : idxOf c (b :: l).length (enc (b :: l)) i = Bool.rec (idxOf c l.length (Nat.div (enc (b :: l)) 256) (Nat.succ i)) (Int.ofNat i) (Nat.beq (Nat.mod (enc (b :: l)) 256) c) := rfl
    have hb := byte_lt b
    have h1 : Nat.mod (enc (b :: l)) 256 = b.toNat := by show (b.toNat + 256 * enc l) % 256 = _; omega
    have h2 : Nat.div (enc (b :: l)) 256 = enc l := by show (b.toNat + 256 * enc l) / 256 = _; omega
    rw [e, h1, h2, idxOf_eq c hc l]
    have h3 : Nat.beq b.toNat c = (b == UInt8.ofNat c) := by
      rw [Bool.eq_iff_iff, Nat.beq_eq, beq_iff_eq, ← UInt8.toNat_inj]
      have : (UInt8.ofNat c).toNat = c := by simp; omega
      rw [this]
    have hge := Lib.indexByte_ge l (UInt8.ofNat c)
    have e2 : Lib.indexByte (b :: l) (UInt8.ofNat c) = if b == UInt8.ofNat c then 0 else if Lib.indexByte l (UInt8.ofNat c) == -1 then -1 else Lib.indexByte l (UInt8.ofNat c) + 1 := rfl
    rw [h3, e2]
    generalize Lib.indexByte l (UInt8.ofNat c) = j at hge ⊢
    cases b == UInt8.ofNat c with
    | true => simp
    | false =>
      simp only [Bool.false_eq_true, if_false, beq_iff_eq]
      by_cases h4 : j = -1
      · simp [h4]
      · rw [if_neg h4, if_neg h4, if_neg (by omega)]
        omega
theorem cmpStr_eq (x y : List UInt8) : cmpStr (enc x) x.length (enc y) y.length = Lib.compareBytes x y := by
  unfold cmpStr
  rw [sLt_eq]
  have key : ∀ a b : List UInt8, (Op.bytesLess a b = true → Lib.compareBytes a b = -1) ∧ (a = b → Lib.compareBytes a b = 0) ∧ (Op.bytesLess a b = false → a ≠ b → Lib.compareBytes a b = 1) := by
    intro a
    induction a with
    | nil => intro b; cases b <;> simp [Op.bytesLess, Lib.compareBytes]
    | cons a l ih =>
      intro b
      cases b with
      | nil => simp [Op.bytesLess, Lib.compareBytes]
      | cons b m =>
        have e1 : Op.bytesLess (a :: l) (b :: m) = (decide (a < b) || (a == b && Op.bytesLess l m)) := by rw [Op.bytesLess]
        rw [e1]
        unfold Lib.compareBytes
        obtain ⟨i1, i2, i3⟩ := ih m
        by_cases h1 : a < b
        · have : a ≠ b := fun k => by rw [k] at h1; have := UInt8.lt_iff_toNat_lt.1 h1; omega
          simp [h1, this]
        · by_cases h2 : b < a
          · have : a ≠ b := fun k => by rw [k] at h2; have := UInt8.lt_iff_toNat_lt.1 h2; omega
            simp [h1, h2, this]
          · have : a = b := UInt8.toNat_inj.1 (by rw [UInt8.lt_iff_toNat_lt] at h1 h2; omega)
            subst this
            simp only [h1, decide_false, Bool.false_or, beq_self_eq_true, Bool.true_and, if_false, List.cons.injEq, true_and]
            exact ⟨i1, i2, fun h h' => i3 h (fun k => h' (by rw [k]))⟩
  obtain ⟨k1, k2, k3⟩ := key x y
  cases hl : Op.bytesLess x y with
  | true => rw [k1 hl]
  | false =>
    cases he : sEq (enc x) x.length (enc y) y.length with
    | true => rw [k2 ((sEq_iff x y).1 he)]
    | false => rw [k3 hl (fun k => by rw [(sEq_iff x y).2 k] at he; cases he)]

theorem xt_sound {x : Xt} {a b v : AV} {u u' : Value} {w : World} (hf : runXt x a b = some v) (ha : V val ρ a u) (hb : V val ρ b u') : Tells val ρ P (xtRow x #[u, u']) w v := by
  cases x with
  | count =>
    obtain ⟨s, hs, hf⟩ := orec_some hf
    obtain ⟨c, hc, hf⟩ := orec_some hf
    cases hf
    rw [asStr_some] at hs
    subst hs
    obtain ⟨str, rfl, e1, e2⟩ := V_str.1 ha
    obtain ⟨rfl, hlt⟩ := byte_some hc
    rw [V_int.1 hb]
    refine .mk _ (Lib.run_countString str c w) ?_
    rw [← e1, ← e2, countOf_eq c hlt]
    exact V_num
  | index =>
    obtain ⟨s, hs, hf⟩ := orec_some hf
    obtain ⟨c, hc, hf⟩ := orec_some hf
    cases hf
    rw [asStr_some] at hs
    subst hs
    obtain ⟨str, rfl, e1, e2⟩ := V_str.1 ha
    obtain ⟨rfl, hlt⟩ := byte_some hc
    rw [V_int.1 hb]
    refine .mk _ (Lib.run_indexByteString str c w) (V_int.2 ?_)
    rw [← e1, ← e2, idxOf_eq c hlt]
    congr 1
    show Lib.indexByte str.data.toList (UInt8.ofNat c) = _
    split <;> simp_all
  | cmp =>
    obtain ⟨s, hs, hf⟩ := orec_some hf
    obtain ⟨c, hc, hf⟩ := orec_some hf
    cases hf
    rw [asStr_some] at hs hc
    subst hs hc
    obtain ⟨str, rfl, e1, e2⟩ := V_str.1 ha
    obtain ⟨str', rfl, e3, e4⟩ := V_str.1 hb
    refine .mk _ (Lib.run_compareString str str' w) (V_int.2 ?_)
    rw [← e1, ← e2, ← e3, ← e4, cmpStr_eq]

section
variable {g : Gam} {sum : Sum}
theorem call_ok (hNG : ∀ (f : Nat) (fn : Func), P.funcs[f]? = some fn → (fn.name == "runtime.NumGoroutine") = false) (hX : XtOk P) (hS : SumOk P val sum) (n : Nat) (hC : CodeOk P val (exec g (fuOf P) sum n) fun _ => True) : CallOk P val (callB (fuOf P) sum (exec g (fuOf P) sum n)) := by
  intro f as h v h' hf ρ args w hG hV hR
  rcases orec_or hf with ⟨_, hf⟩ | ⟨s, hs, hf⟩
  rotate_left
  · exact hS f s hs as h v h' hf ρ args w hG hV hR
  unfold fuOf at hf
  cases hfn : P.funcs[f]? with
  | none => simp only [hfn] at hf; cases hf
  | some fn =>
    simp only [hfn] at hf
    unfold cFu at hf
    have hname := hNG f fn hfn
    have xt : ∀ x, fn.body = none → fn.name = xtName x → enter (.xt x) (exec g (fuOf P) sum n) as h = some (v, h') → FnOk P f args w fun u w' => ∃ ρ', V val ρ' v u ∧ R val ρ' h'.get h'.next w' ∧ Mv ρ h.get h.next w ρ' h'.get h'.next w' := by
      intro x hb hx hf
      obtain ⟨q, hq, hf⟩ := orec_some hf
      obtain ⟨r, hr, hf⟩ := orec_some hf
      cases hf
      rw [list2_some hq] at hV
      obtain ⟨u1, u2, hu, h1, h2⟩ := Vs2 hV
      have hargs : args = #[u1, u2] := by apply Array.toList_inj.1; exact hu
      subst hargs
      obtain ⟨u, hu, hV⟩ := xt_sound (P := P) (w := w) hr h1 h2
      obtain ⟨k1, k2⟩ := hX f fn x hfn hb hx
      have := run_callFunc_extern hfn hname (by rw [hb]; rfl) k1 k2 #[u1, u2] w
      rw [hu] at this
      unfold FnOk
      rw [this]
      exact ⟨ρ, hV, hR, Mv.refl _ _ _ _⟩
    cases hb : fn.body with
    | none =>
      simp only [hb] at hf
      split at hf
      · exact xt .count hb ‹_› hf
      · split at hf
        · exact xt .index hb ‹_› hf
        · split at hf
          · exact xt .cmp hb ‹_› hf
          · cases hf
    | some c =>
      simp only [hb] at hf
      cases hd : dOk fn.ntmps c with
      | false => simp only [hd, cond_false] at hf; cases hf
      | true =>
        simp only [hd, cond_true] at hf
        obtain ⟨s, hs, hf⟩ := orec_some (show outOf (fn.results.toList.map (cRs P (maskOf fn c))) (exec g (fuOf P) sum n (cCode P (maskOf fn c) c) (ofArgs as [] .nil) h) = some (v, h') from hf)
        have hrun : (callFunc f args).run P w = .ok (.enter f args) w := by
          have h1 : fn.name ≠ "runtime.NumGoroutine" := by simpa using hname
          simp [callFunc, hfn, h1, hb]
        unfold FnOk
        rw [hrun]
        have hend : (s.e = .nrm ∨ s.e = .ret) ∧ ∃ r, Ev.results (fn.results.toList.map (cRs P (maskOf fn c))) s.t s.h = some r ∧ v = r ∧ h' = s.h := by
          cases he : s.e with
          | nrm => rw [he] at hf; obtain ⟨r, hr, hf⟩ := orec_some hf; cases hf; exact ⟨.inl rfl, _, hr, rfl, rfl⟩
          | ext id => rw [he] at hf; cases hf
          | ret => rw [he] at hf; obtain ⟨r, hr, hf⟩ := orec_some hf; cases hf; exact ⟨.inr rfl, _, hr, rfl, rfl⟩
        obtain ⟨hend, r, hr, rfl, rfl⟩ := hend
        refine calls_of_wp hfn hb (hC c fn.ntmps (maskOf fn c) _ _ h s _ w ρ trivial hd hs hG ⟨(fun d n v h1 _ => by cases h1), ?_, ?_, rfl⟩ hR ?_)
        · intro d x _ hx
          have := ofArgs_get as 0 .nil d
          rw [show pth 0 = [] from rfl] at this
          rw [this] at hx
          split at hx
          · rename_i hc
            simp at hx hc
            obtain ⟨u, hu, hVu⟩ := Vs_get hV hx
            simp at hu
            rw [Array.getD_eq_getD_getElem?, Array.getElem?_append_left (Array.getElem?_eq_some_iff.1 hu).1, hu]
            exact hVu
          · cases hx
        · simp; omega
        · intro a' w' hA
          obtain ⟨ρ', k1, k2, k3⟩ := hA.ex
          obtain ⟨u, hu, hVu⟩ := results_sound (fn := fn) k1 k2.ob hr
          have : a'.defers = [] ∧ ∃ v', (Go.results fn a'.tmps).run P w' = .ok v' w' ∧ ∃ u', Ending.returned v' = .returned u' ∧ ∃ ρ', V val ρ' v u' ∧ R val ρ' s.h.get s.h.next w' ∧ Mv ρ h.get h.next w ρ' s.h.get s.h.next w' :=
            ⟨k1.nodef, u, hu, u, rfl, ρ', hVu, k2, k3⟩
          rcases hend with he | he <;> rw [he] <;> exact this

theorem loop_ok {n : Nat} (hall : ∀ k, k ≤ n → CodeOk P val (exec g (fuOf P) sum k) fun _ => True) : ∀ k, k ≤ n + 1 → ∀ (b : Code) (N m : Nat) (Q : Exit → Act → World → Prop) (t : T) (h : Hp) (s : St) (a : Act) (w : World) (ρ : Rho), dOk N b = true →
    exec g (fuOf P) sum k (.loop (cCode P m b)) t h = some s → Gl P ρ → Sr val ρ N m [] [] t a → R val ρ h.get h.next w → (∀ a' w', After P val N m ρ h w s.t s.h a' w' → Q (exOf s.e) a' w') → Code.rounds P b Q k a w
  | 0, _, b, N, m, Q, t, h, s, a, w, ρ, hd, hr, hG, hs, hR, hQ => by cases hr
  | k + 1, hk, b, N, m, Q, t, h, s, a, w, ρ, hd, hr, hG, hs, hR, hQ => by
    rw [exec_succ] at hr
    obtain ⟨s1, hs1, hr⟩ := orec_some (show (Option.rec none (fun s => Ex.rec (exec g (fuOf P) sum k (.loop (cCode P m b)) s.t s.h) (fun _ => some s) (some s) s.e) (exec g (fuOf P) sum k (cCode P m b) t h) : Option St) = some s from hr)
    obtain ⟨e1, t1, h1⟩ := s1
    rw [rounds_succ]
    refine hall k (by omega) b N m _ t h ⟨e1, t1, h1⟩ a w ρ trivial hd hs1 hG hs hR fun a' w' hA => ?_
    cases e1 with
    | nrm =>
      obtain ⟨ρ', k1, k2, k3⟩ := hA.ex
      exact loop_ok hall k (by omega) b N m Q t1 h1 s a' w' ρ' hd hr (hG.ext k3.ext) k1 k2 fun a2 w2 hA2 => hQ a2 w2 (hA2.trans k3)
    | ext id => cases hr; exact hQ a' w' hA
    | ret => cases hr; exact hQ a' w' hA

/-- THE INTERPRETER IS SOUND. -/
theorem code_ok (hval : ∀ i, (val i).oneCell' = true) (hg : GamOk P val g) (hNG : ∀ (f : Nat) (fn : Func), P.funcs[f]? = some fn → (fn.name == "runtime.NumGoroutine") = false) (hX : XtOk P) (hS : SumOk P val sum)
    (hD : ∀ env, Ok P val env → DrwOk P val env) (hCo : CoinOk P val) : ∀ n k, k ≤ n → CodeOk P val (exec g (fuOf P) sum k) fun _ => True
  | 0, k, hk => by
    have : k = 0 := by omega
    subst this
    intro c N m Q t h s a w ρ _ _ hr
    cases hr
  | n + 1, k, hk => by
    have hall := code_ok hval hg hNG hX hS hD hCo n
    rcases Nat.lt_or_ge k (n + 1) with h | h
    · exact hall k (by omega)
    · have : k = n + 1 := by omega
      subst this
      have hE : Ok P val ⟨g, callB (fuOf P) sum (exec g (fuOf P) sum n)⟩ := ⟨hval, hg, call_ok hNG hX hS n (hall n (Nat.le_refl _))⟩
      intro c N m Q t h s a w ρ _ hd hr hG hs hR hQ
      by_cases hc : ∀ b, c ≠ .loop b
      · exact code_step n hE (hD _ hE) hCo (hall n (Nat.le_refl _)) c N m Q t h s a w ρ hc hd hr hG hs hR hQ
      · obtain ⟨b, rfl⟩ : ∃ b, c = .loop b := Classical.byContradiction fun k => hc fun b e => k ⟨b, e⟩
        exact wp_loop_rounds (n + 1) (loop_ok hall (n + 1) (Nat.le_refl _) b N m Q t h s a w ρ hd hr hG hs hR hQ)
theorem call_sound (hval : ∀ i, (val i).oneCell' = true) (hg : GamOk P val g) (hNG : ∀ (f : Nat) (fn : Func), P.funcs[f]? = some fn → (fn.name == "runtime.NumGoroutine") = false) (hX : XtOk P) (hS : SumOk P val sum)
    (hD : ∀ env, Ok P val env → DrwOk P val env) (hCo : CoinOk P val) (n : Nat) : CallOk P val (call g (fuOf P) sum n) :=
  call_ok hNG hX hS n (code_ok hval hg hNG hX hS hD hCo n n (Nat.le_refl _))
end
end Go.Ev
