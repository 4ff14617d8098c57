/- 'next' and 'append'. -/
import Derived.Test.YtgchblfkmgnaeaaGreatDoorEvL
set_option linter.unusedVariables false
set_option linter.unusedSimpArgs false
set_option linter.unusedSectionVars false
namespace Go.Ev

variable {P : Program} {val : Nat → Value} {ρ : Rho}

theorem any_contains (seen : List Nat) (b : Nat) : seen.any (Nat.beq b) = seen.toArray.contains b := by
  rw [Bool.eq_iff_iff]
  simp [List.any_eq_true, Nat.beq_eq]
theorem unseen_cons (seen : List Nat) (e : Ent) (es : List Ent) : unseen seen (e :: es) = Bool.rec (e :: unseen seen es) (unseen seen es) (seen.any (Nat.beq e.2.2)) := rfl
theorem Es_unseen (seen : List Nat) : ∀ {es : List Ent} {l : List MapEntry}, Es val ρ es l → Es val ρ (unseen seen es) (l.filter fun e => !seen.toArray.contains e.born)
  | [], l, h => by rw [show l = [] from h]; rfl
  | e :: es, l, h => by
    obtain ⟨x, r, rfl, h1, h2, h3, h4⟩ := h
    rw [unseen_cons, any_contains, ← h3]
    have ih := Es_unseen seen h4
    cases hc : seen.toArray.contains x.born with
    | true => rw [List.filter_cons_of_neg (by rw [hc]; simp)]; exact ih
    | false => rw [List.filter_cons_of_pos (by rw [hc]; rfl)]; exact ⟨x, _, rfl, h1, h2, h3, ih⟩
theorem stays_not {last : Nat} {seen : List Nat} {es : List Ent} {arr : Array MapEntry} (h : stays last seen es = true) (hE : Es val ρ es arr.toList) : (!seen.toArray.isEmpty && !arr.isEmpty && arr.all fun e => decide (e.born ≥ last)) = false := by
  unfold stays at h
  cases hs : seen.isEmpty with
  | true => rw [List.isEmpty_iff] at hs; subst hs; simp
  | false =>
    have hl := Es_len hE
    simp at hl
    cases he : es.isEmpty with
    | true => rw [List.isEmpty_iff] at he; subst he; have : arr = #[] := by apply Array.eq_empty_of_size_eq_zero; simpa using hl
              subst this; simp
    | false =>
      rw [hs, he] at h
      simp only [Bool.false_or, List.any_eq_true, Nat.blt_eq] at h
      obtain ⟨x, hx, hlt⟩ := h
      obtain ⟨i, hi, rfl⟩ := List.getElem_of_mem hx
      obtain ⟨y, hy, _, _, hb⟩ := Es_get hE (List.getElem?_eq_getElem hi)
      have : (arr.all fun e => decide (e.born ≥ last)) = false := by
        rw [Array.all_eq_false]
        simp at hy
        obtain ⟨hlt', hyy⟩ := Array.getElem?_eq_some_iff.1 hy
        refine ⟨i, hlt', ?_⟩
        rw [hyy, hb]
        simp; omega
      rw [this, Bool.and_false]

section
variable {e : Operand → Value} {o : Oper} {w : World}

theorem next_eff {h h' : Hp} {ty : TypeId} {x : Value} {as : List AV} {v : AV} (hR : R val ρ h.get h.next w) (ha : Vs val ρ as [x]) (hf : nextF as h = some (v, h')) :
    Eff P val ρ h w v h' (do pure (.value (← Instr.next x false ty))) := by
  obtain ⟨q, hq, hf2⟩ := orec_some hf
  clear hf
  have hq2 := list1_some hq
  subst hq2
  obtain ⟨_, h1, hV⟩ := Vs1 ha
  cases h1
  obtain ⟨i, hi, hf3⟩ := orec_some hf2
  clear hf2
  obtain ⟨L, m', hL, hro, hg, rfl, hit, hno, hso, hsh, _⟩ := iterOf_sound hR.ob hi hV
  have hgo : (getObj L.blk).run P w = .ok (.mapIter m' i.2.since i.2.seen.toArray i.2.last) w := by simp [getObj, Sem.run, hit]
  rcases orec_or hf3 with ⟨hm, hf⟩ | ⟨m, hm, hf⟩
  · cases hf
    rw [hno hm] at hgo
    exact same_eff (nx := .value (.tuple #[.bool false])) hR (by simp [Instr.next, hgo]) rfl (V_tup.2 ⟨_, rfl, Vs_cons (V_bool.2 rfl) Vs_nil⟩)
  · clear hf3
    obtain ⟨p, hp, hf⟩ := orec_some hf
    obtain ⟨hst, hf⟩ := brec_true hf
    obtain ⟨L', hL', rfl⟩ := hso m hm
    obtain ⟨K, hK, _, arr, hmb, hE⟩ := hR.ob m _ (mapX_some hp)
    rw [hL'] at hK
    cases hK
    have hcond := stays_not hst hE
    have hU := Es_unseen i.2.seen hE
    cases hu : unseen i.2.seen p.1 with
    | nil =>
      unfold nextMap at hf
      rw [hu] at hf
      cases hf
      rw [hu] at hU
      have hleft : arr.filter (fun e => !i.2.seen.toArray.contains e.born) = #[] := by
        apply Array.toList_inj.1
        rw [Array.toList_filter]
        exact hU
      refine same_eff (nx := .value (.tuple #[.bool false])) hR ?_ rfl (V_tup.2 ⟨_, rfl, Vs_cons (V_bool.2 rfl) Vs_nil⟩)
      simp only [Instr.next, Sem.run_bind, hgo, Result.andThen_ok, getMap_run hmb, hcond, Bool.false_eq_true, if_false, hleft]
      simp [Question.forced]
    | cons ent l =>
      unfold nextMap at hf
      rw [hu] at hf
      cases l with
      | cons ent' l' => cases hf
      | nil =>
        obtain ⟨hlt, hf⟩ := brec_true (show (Bool.rec none (some (AV.tup [.bool true, ent.1, ent.2.1], h.put i.1 (.mit (some m) i.2.since (cat i.2.seen [ent.2.2]) p.2))) (Nat.blt ent.2.2 i.2.since) : Option (AV × Hp)) = some (v, h') from hf)
        cases hf
        rw [hu] at hU
        obtain ⟨y, r, hyr, hk1, hk2, hk3, hr⟩ := hU
        have hr : r = [] := hr
        subst hr
        have hleft : arr.filter (fun e => !i.2.seen.toArray.contains e.born) = #[y] := by
          apply Array.toList_inj.1
          rw [Array.toList_filter]
          exact hyr
        have hlt : y.born < i.2.since := by rw [hk3]; simpa [Nat.blt_eq] using hlt
        refine put_eff hR hg hL hro (wrote_set w L.blk (.mapIter (some L'.blk) i.2.since (i.2.seen.toArray.push y.born) p.2)) (nx := .value (.tuple #[.bool true, y.key, y.val]))
          ⟨hro, hsh, some L'.blk, ?_, (fun h0 => by cases h0), (fun r hr => by cases hr; exact ⟨L', hL', rfl⟩)⟩ ?_ rfl (V_tup.2 ⟨_, rfl, Vs_cons (V_bool.2 rfl) (Vs_cons hk1 (Vs_cons hk2 Vs_nil))⟩)
        · rw [set_get hit, cat_eq, ← hk3]; simp
        · have h1 : (#[y] : Array MapEntry).filter (fun e => decide (e.born < i.2.since)) = #[y] := by simp [hlt]
          have h2 : (#[y] : Array MapEntry).filter (fun e => decide (e.born ≥ i.2.since)) = #[] := by simp; exact hlt
          simp only [Instr.next, Sem.run_bind, hgo, Result.andThen_ok, getMap_run hmb, hcond, Bool.false_eq_true, if_false, hleft, h1, h2]
          simp [Question.forced, setIt_run _ hit]

/-! 'append'. -/
theorem appended_sound {h : Hp} {n m : Nat} {a : AV} {x : Value} {l : List AV} (hR : Rd val ρ h.get w) (ha : appended h n a = some (m, l)) (hV : V val ρ a x) :
    ∃ us : List Value, (Builtin.lenOf x).run P w = .ok m w ∧ (Builtin.firstCells n m x).run P w = .ok us.toArray w ∧ Vs val ρ l us ∧ us.length = m * n := by
  rcases orec_or ha with ⟨_, ha⟩ | ⟨s, hs, ha⟩
  · rcases orec_or ha with ⟨_, ha⟩ | ⟨u, hu, ha⟩
    · obtain ⟨p, hp, ha⟩ := orec_some ha
      obtain ⟨hb, ha⟩ := brec_true ha
      cases ha
      have hb := Nat.eq_of_beq_eq_true hb
      subst hb
      rw [asStr_some] at hp
      subst hp
      obtain ⟨s, rfl, h1, h2⟩ := V_str.1 hV
      have hsz : s.size = p.2 := by rw [← h1]; simp
      refine ⟨s.data.toList.map fun b => Value.int .u8 b.toNat, by simp [Builtin.lenOf, hsz], ?_, ?_, ?_⟩
      · have : s.extract 0 p.2 = s := by rw [← hsz]; simp
        simp only [Builtin.firstCells, this, Sem.run_pure]
        congr 1
        apply Array.toList_inj.1
        simp
      · rw [← h1, ← h2, toBytes_eq]
        refine Vs_of_get (by simp) fun j b hj => ?_
        rw [List.getElem?_map] at hj ⊢
        cases hb : s.data.toList[j]? with
        | none => rw [hb] at hj; cases hj
        | some c => rw [hb] at hj; cases hj; exact ⟨_, rfl, V_int.2 rfl⟩
      · rw [List.length_map, h1]; simp
    · cases ha
      rw [nulIs_some hu] at hV
      obtain ⟨_, rfl⟩ := V_nul.1 hV
      exact ⟨[], rfl, rfl, Vs_nil, by simp⟩
  · obtain ⟨hb, ha⟩ := brec_true ha
    have hb := Nat.eq_of_beq_eq_true hb
    subst hb
    rw [asSlc_some] at hs
    rw [hs] at hV
    obtain ⟨L, ad, c, hL, rfl, hlen, _, hc⟩ := V_slc.1 hV
    cases hl : Nat.beq s.len 0 with
    | true =>
      rw [hl] at ha
      cases ha
      have hl := Nat.eq_of_beq_eq_true hl
      refine ⟨[], by simp [Builtin.lenOf, hl], ?_, Vs_nil, by simp⟩
      have : 0 * s.sz = 0 := Nat.zero_mul _
      simp only [Builtin.firstCells, this]; rfl
    | false =>
      rw [hl] at ha
      obtain ⟨cs, hcs, ha⟩ := orec_some ha
      obtain ⟨l', hcut, ha⟩ := orec_some ha
      cases ha
      have hne : s.len ≠ 0 := fun k => by rw [k] at hl; cases hl
      rcases hc with rfl | ⟨rfl, _⟩
      · omega
      obtain ⟨_, hcc⟩ := row_cells hR hL hcs
      obtain ⟨us, h1, h2, _, h3⟩ := cut_cells (P := P) hcc hcut
      exact ⟨us, by simp [Builtin.lenOf], by simpa [Builtin.firstCells] using h3, h1, h2⟩

set_option maxHeartbeats 4000000 in
/-- More than there is room for. -/
theorem grow_run {t u ty el : TypeId} {info : TypeInfo} {zv : Value} {s x : Value} {base : Option Addr} {sLen sCap m n : Nat} {old new : Array Value} (ht : P.underlying t = some (.slice el)) (hu : ∀ d, P.underlying u = some d → ∀ k, d ≠ .int k) (hu' : ∃ d, P.underlying u = some d) (hi : P.info? el = some info) (hz : info.zero = some zv) (hn : info.size = n)
    (hby : info.bytes ≤ 65536) (hs : s = .slice base sLen sCap) (hlen : (Builtin.lenOf x).run P w = .ok m w) (hgt : sCap < sLen + m) (hsmall : sLen + m < 1048576)
    (hold : (Builtin.firstCells n sLen s).run P w.drew = .ok old w.drew) (hnew : (Builtin.firstCells n m x).run P w.drew = .ok new w.drew) :
    (Builtin.append_ #[t, u] ty #[s, x]).run P w = .ok (.slice (some ⟨w.heap.size, 0, none⟩) (sLen + m) (grownCap w (sLen + m) sCap el))
      (w.drew.alloc (.cells (old ++ new ++ Builtin.zeroCells zv.cells (grownCap w (sLen + m) sCap el - (sLen + m))) el)) := by
  obtain ⟨d, hd⟩ := hu'
  have hzeros : (match (d : TypeDesc) with | .int _ => true | _ => false) = false := by
    have := hu d hd
    cases d <;> first | rfl | exact absurd rfl (this _)
  have h1 : ¬ (((sLen + m : Nat) : Int) > IntKind.i64.max) := by rw [IntKind.max_i64]; omega
  have hfit : Builtin.nextslicecap (sLen + m) sCap * info.bytes ≤ 281474976710656 := growslice_fits hgt (by
    have : (sLen + m) * info.bytes ≤ 1048576 * 65536 := Nat.mul_le_mul (by omega) hby
    omega)
  have h2 : ¬ (Builtin.nextslicecap (sLen + m) sCap * info.bytes > 2 ^ 48) := by
    rw [show (2 : Nat) ^ 48 = 281474976710656 by decide]; omega
  have h3 : ¬ (sLen + m ≤ sCap) := by omega
  have hti : ∀ w : World, (typeInfo el).run P w = .ok info w := fun w => by simp [typeInfo, hi]
  have hzv : ∀ w : World, (zeroValue el).run P w = .ok zv w := fun w => by simp [zeroValue, typeInfo, hi, hz]
  subst hs
  have hsz : (sizeOf el).run P w = .ok n w := by simp [sizeOf, typeInfo, hi, hn]
  have h1' : ¬ (9223372036854775807 < ((sLen : Int) + (m : Int))) := by omega
  have h2' : ¬ (281474976710656 < Builtin.nextslicecap (sLen + m) sCap * info.bytes) := by omega
  have hap : old ++ (new ++ Builtin.zeroCells zv.cells (grownCap w (sLen + m) sCap el - (sLen + m))) = old ++ new ++ Builtin.zeroCells zv.cells (grownCap w (sLen + m) sCap el - (sLen + m)) := by rw [Array.append_assoc]
  rw [← hap]
  cases d <;> first
    | exact absurd rfl (hu _ hd _)
    | simp [Builtin.append_, und_run ht, und_run hd, hsz, hti, hzv, hlen, h3, h1', h2', Question.forced, hold, hnew, newRow, grownCap]
set_option maxHeartbeats 4000000 in
theorem room_run {t u ty el : TypeId} {n : Nat} {x : Value} {base : Option Addr} {sLen sCap m : Nat} {new : Array Value} {w' : World} (ht : P.underlying t = some (.slice el)) (hu : ∀ d, P.underlying u = some d → ∀ k, d ≠ .int k) (hu' : ∃ d, P.underlying u = some d) (hsz : sz? P el = some n)
    (hlen : (Builtin.lenOf x).run P w = .ok m w) (hroom : sLen + m ≤ sCap) (hnew : (Builtin.firstCells n m x).run P w = .ok new w)
    (hst : ∀ a, base = some a → (storeCells (a.add (sLen * n)) new.toList).run P w = .ok () w') (hno : base = none → w' = w) :
    (Builtin.append_ #[t, u] ty #[.slice base sLen sCap, x]).run P w = .ok (.slice base (sLen + m) sCap) w' := by
  obtain ⟨d, hd⟩ := hu'
  have hsz := sz_run hsz w
  cases base with
  | none =>
    have := hno rfl
    subst this
    cases d <;> first
      | exact absurd rfl (hu _ hd _)
      | simp [Builtin.append_, und_run ht, und_run hd, hsz, hlen, hroom, hnew]
  | some a =>
    have := hst a rfl
    cases d <;> first
      | exact absurd rfl (hu _ hd _)
      | simp [Builtin.append_, und_run ht, und_run hd, hsz, hlen, hroom, hnew, this]

end
end Go.Ev
