/- Operations that change the memory: each kind. -/
import Derived.Test.YtilmbaeedbfldaaGreatDoorEvK
set_option linter.unusedVariables false
set_option linter.unusedSimpArgs false
set_option linter.unusedSectionVars false
namespace Go.Ev

variable {P : Program} {val : Nat → Value} {ρ : Rho}

section
variable {e : Operand → Value} {o : Oper} {w : World}

theorem done_some {x : Option Hp} {p : AV × Hp} (h : done x = some p) : x = some p.2 ∧ p.1 = .tup [] := by
  obtain ⟨k, hk, h⟩ := orec_some h
  cases h
  exact ⟨hk, rfl⟩

theorem store_eff (hval : ∀ i, (val i).oneCell' = true) {h h' : Hp} {n : Nat} {t : TypeId} {x y : Operand} {as : List AV} {v : AV} (ht : sz? P t = some n) (hR : R val ρ h.get h.next w) (ha : Vs val ρ as [e x, e y]) (hf : storeF n as h = some (v, h')) :
    Eff P val ρ h w v h' (do Instr.storeAt t (e x) (e y); pure .skip) := by
  obtain ⟨q, hq, hf⟩ := orec_some hf
  obtain ⟨p, hp, hf⟩ := orec_some hf
  obtain ⟨hf, hv⟩ := done_some hf
  cases hv
  obtain ⟨cs, hcs, hf⟩ := orec_some hf
  obtain ⟨hb, hf⟩ := brec_true hf
  obtain ⟨cs', hw, hf⟩ := orec_some hf
  cases hf
  have hq2 := list2_some hq
  subst hq2
  obtain ⟨_, _, h1, hV1, hV2⟩ := Vs2 ha
  cases h1
  rw [asPtr_some] at hp
  rw [hp] at hV1
  obtain ⟨L, hL, hx⟩ := V_ptr.1 hV1
  have hg := mrow_some hcs
  obtain ⟨L', hL', hro, c, el, f, k1, k2, k3, k4, k5⟩ := hR.ob _ _ hg
  rw [hL] at hL'
  cases hL'
  obtain ⟨w1, w2, w3⟩ := wr_some hw
  have hb := Nat.eq_of_beq_eq_true hb
  rw [lenL_eq] at hb
  have hcl := V_cells hV2 (not_agg hval)
  have hl := Vs_len hcl
  simp at hl
  have hone := Vs_one hval w3 hcl
  obtain ⟨w', c', s1, s2, s3, s4, s5⟩ := storeCells_run (P := P) L.blk (L.sh + p.2) el f (e y).cells.toList 0 c w k1 (by simp; omega)
    (fun j hj => k5 rfl _ (by simp at hj; omega)) hone
  refine put_eff (nx := .skip) hR hg hL hro s2 ⟨hro, c', el, f, s3, by rw [s4, k2], by rw [wr_len hw]; exact k3, fun i a hi => ?_, fun _ => k5 rfl⟩ ?_ rfl V_undef
  · rw [wr_get hw] at hi
    rw [s5]
    simp only [Nat.add_zero, Array.length_toList]
    by_cases hc : p.2 ≤ i ∧ i < p.2 + q.2.cells.length
    · rw [if_pos hc] at hi
      rw [if_pos (by omega)]
      obtain ⟨u, hu, hV⟩ := Vs_get hcl hi
      exact ⟨u, by rw [show L.sh + i - (L.sh + p.2) = i - p.2 by omega]; exact hu, hV⟩
    · rw [if_neg hc] at hi
      rw [if_neg (by omega)]
      exact k4 i a hi
  · have : (e y).cells.size = n := by omega
    simp [Instr.storeAt, hx, Instr.sureAddr, storeVar, sz_run ht, this, s1]

theorem mapUpdate_eff {h h' : Hp} {kt : KT} {t el : TypeId} {x y z : Value} {as : List AV} {v : AV} (hm : map? P t = some (kt, el)) (hR : R val ρ h.get h.next w) (ha : Vs val ρ as [x, y, z]) (hf : mapUpdateF kt as h = some (v, h')) :
    Eff P val ρ h w v h' (do Instr.mapUpdate t x y z; pure .skip) := by
  obtain ⟨kid, hu, hk⟩ := map_spec hm
  obtain ⟨q, hq, hf⟩ := orec_some hf
  obtain ⟨r, hr, hf⟩ := orec_some hf
  obtain ⟨hf, hv⟩ := done_some hf
  cases hv
  obtain ⟨p, hp, hf⟩ := orec_some hf
  obtain ⟨hko, hf⟩ := brec_true hf
  obtain ⟨f, hfind, hf⟩ := orec_some hf
  have hq2 := list3_some hq
  subst hq2
  obtain ⟨_, _, _, h1, hV1, hV2, hV3⟩ := Vs3 ha
  cases h1
  rw [asMap_some] at hr
  rw [hr] at hV1
  obtain ⟨L, arr, hL, hro, rfl, hbk, hE⟩ := map_at hR hp hV1
  have hchk := checkKey_run hk hko hV2 false w
  obtain ⟨rr, hrr, hF⟩ := find_run hk hko hV2 hfind hE w
  have hg := mapX_some hp
  cases f with
  | none =>
    have hr0 : rr = none := hF
    subst hr0
    have hf : some (h.put r (.mp (cat p.1 [(q.2.1, q.2.2, p.2)]) (Nat.succ p.2))) = some h' := hf
    cases hf
    refine put_eff (nx := .skip) hR hg hL hro (wrote_set w L.blk (.map (arr.push { key := y, val := z, born := p.2 }) (p.2 + 1))) ⟨hro, _, set_get hbk, ?_⟩ ?_ rfl V_undef
    · rw [cat_eq, Array.toList_push]
      exact Es_append hE ⟨_, _, rfl, hV2, hV3, rfl, rfl⟩
    · simp [Instr.mapUpdate, und_run hu, getMap_run hbk, hchk, hrr, setMap_run _ hbk]
  | some s =>
    obtain ⟨en, hen, _, rfl, hV, hborn, hkey, hsame⟩ := hF
    simp at hen
    have hf : some (h.put r (.mp (setNth (q.2.1, q.2.2, s.2.2) p.1 s.1) p.2)) = some h' := hf
    cases hf
    refine put_eff (nx := .skip) hR hg hL hro (wrote_set w L.blk (.map (arr.modify s.1 fun e => { e with key := y, val := z }) p.2)) ⟨hro, _, set_get hbk, ?_⟩ ?_ rfl V_undef
    · rw [setNth_eq, modify_toList arr s.1 en _ (by simpa using hen)]
      exact Es_set hE s.1 _ _ hV2 hV3 hborn
    · have hg2 : (((arr[s.1]?).map (·.key)).getD y) = en.key := by rw [show arr[s.1]? = some en by simpa using hen]; rfl
      simp only [Instr.mapUpdate, Sem.run_bind, und_run hu, Result.andThen_ok, getMap_run hbk, hchk, hrr, hg2, key_stays hsame, setMap_run _ hbk, Sem.run_pure]

theorem mapEntry_eff {h h' : Hp} {kt : KT} {t el : TypeId} {n : Nat} {z : AV} {x y : Value} {as : List AV} {v : AV} (hm : map? P t = some (kt, el)) (hz : zero? P el = some (z, n)) (hR : R val ρ h.get h.next w) (ha : Vs val ρ as [x, y]) (hf : mapEntryF kt z as h = some (v, h')) :
    Eff P val ρ h w v h' (do pure (.value (← Instr.mapEntry t x y))) := by
  obtain ⟨kid, hu, hk⟩ := map_spec hm
  obtain ⟨q, hq, hf⟩ := orec_some hf
  obtain ⟨r, hr, hf⟩ := orec_some hf
  obtain ⟨p, hp, hf⟩ := orec_some hf
  obtain ⟨hko, hf⟩ := brec_true hf
  obtain ⟨f, hfind, hf⟩ := orec_some hf
  have hq2 := list2_some hq
  subst hq2
  obtain ⟨_, _, h1, hV1, hV2⟩ := Vs2 ha
  cases h1
  rw [asMap_some] at hr
  rw [hr] at hV1
  obtain ⟨L, arr, hL, hro, rfl, hbk, hE⟩ := map_at hR hp hV1
  have hchk := checkKey_run hk hko hV2 false w
  obtain ⟨rr, hrr, hF⟩ := find_run hk hko hV2 hfind hE w
  obtain ⟨zv, hz1, _, _, _, hzV, _⟩ := zero_run (val := val) (ρ := ρ) hz w
  have hg := mapX_some hp
  cases f with
  | none =>
    have hr0 : rr = none := hF
    subst hr0
    have hf : some (AV.tup [z, .int .i64 (Int.ofNat p.2)], h.put r (.mp (cat p.1 [(q.2, z, p.2)]) (Nat.succ p.2))) = some (v, h') := hf
    cases hf
    refine put_eff hR hg hL hro (wrote_set w L.blk (.map (arr.push { key := y, val := zv, born := p.2 }) (p.2 + 1))) (nx := .value (.tuple #[zv, goInt p.2])) ⟨hro, _, set_get hbk, ?_⟩ ?_ rfl (V_tup.2 ⟨_, rfl, Vs_cons hzV (Vs_cons (V_int.2 rfl) Vs_nil)⟩)
    · rw [cat_eq, Array.toList_push]
      exact Es_append hE ⟨_, _, rfl, hV2, hzV, rfl, rfl⟩
    · simp [Instr.mapEntry, und_run hu, getMap_run hbk, hchk, hrr, hz1, setMap_run _ hbk]
  | some s =>
    obtain ⟨en, hen, _, rfl, hV, hborn, hkey, hsame⟩ := hF
    simp at hen
    have hf : some (AV.tup [s.2.1, .int .i64 (Int.ofNat s.2.2)], h.put r (.mp (setNth (q.2, s.2.1, s.2.2) p.1 s.1) p.2)) = some (v, h') := hf
    cases hf
    have hen' : arr[s.1]? = some en := by simpa using hen
    refine put_eff hR hg hL hro (wrote_set w L.blk (.map (arr.modify s.1 fun e => { e with key := y }) p.2)) (nx := .value (.tuple #[en.val, goInt en.born])) ⟨hro, _, set_get hbk, ?_⟩ ?_ rfl (V_tup.2 ⟨_, rfl, Vs_cons hV (Vs_cons (V_int.2 (by rw [hborn]; rfl)) Vs_nil)⟩)
    · rw [setNth_eq, modify_toList arr s.1 en _ hen']
      exact Es_set hE s.1 _ _ hV2 hV hborn
    · have hg2 : (((arr[s.1]?).map (·.key)).getD y) = en.key := by rw [hen']; rfl
      have hg3 : (((arr[s.1]?).map (fun x => (x.born : Int))).getD 0) = (en.born : Int) := by rw [hen']; rfl
      simp only [Instr.mapEntry, Sem.run_bind, und_run hu, Result.andThen_ok, getMap_run hbk, hchk, hrr, hg2, hg3, key_stays hsame, setMap_run _ hbk, Sem.run_pure]

theorem entryStore_eff {h h' : Hp} {t : TypeId} {x y z : Value} {as : List AV} {v : AV} (hR : R val ρ h.get h.next w) (ha : Vs val ρ as [x, y, z]) (hf : entryStoreF as h = some (v, h')) :
    Eff P val ρ h w v h' (do Instr.entryStore t x y z; pure .skip) := by
  obtain ⟨q, hq, hf⟩ := orec_some hf
  obtain ⟨r, hr, hf⟩ := orec_some hf
  obtain ⟨b, hb, hf⟩ := orec_some hf
  obtain ⟨hf, hv⟩ := done_some hf
  cases hv
  obtain ⟨p, hp, hf⟩ := orec_some hf
  obtain ⟨s, hs, hf⟩ := orec_some hf
  cases hf
  have hq2 := list3_some hq
  subst hq2
  obtain ⟨_, _, _, h1, hV1, hV2, hV3⟩ := Vs3 ha
  cases h1
  rw [asMap_some] at hr
  rw [hr] at hV1
  obtain ⟨L, arr, hL, hro, rfl, hbk, hE⟩ := map_at hR hp hV1
  have hg := mapX_some hp
  obtain ⟨en, hen, k1, k2, k3, _, k5⟩ := Es_find hE hs
  obtain ⟨kk, rfl⟩ := asNat_V hb hV2
  have hen' : arr[s.1]? = some en := by simpa using hen
  refine put_eff (nx := .skip) hR hg hL hro (wrote_set w L.blk (.map (arr.modify s.1 fun e => { e with val := z }) p.2)) ⟨hro, _, set_get hbk, ?_⟩ ?_ rfl V_undef
  · rw [setNth_eq, modify_toList arr s.1 en _ hen']
    exact Es_set hE s.1 _ _ k1 hV3 k3
  · have hidx : arr.findIdx? (fun e => ((e.born : Int) == (b : Int))) = some s.1 := by
      have : (fun e : MapEntry => ((e.born : Int) == (b : Int))) = fun e => e.born == b := by
        funext e; rw [Bool.eq_iff_iff]; simp; omega
      rw [this, show arr.findIdx? (fun e => e.born == b) = arr.toList.findIdx? (fun e => e.born == b) by cases arr; simp]; exact k5
    have hai : (Go.asInt (.int kk (b : Int))).run P w = .ok (b : Int) w := rfl
    simp [Instr.entryStore, getMap_run hbk, hai, hidx, setMap_run _ hbk]

theorem range_eff {h h' : Hp} {t a b : TypeId} {x : Value} {as : List AV} {v : AV} (hu : P.underlying t = some (.map a b)) (hR : R val ρ h.get h.next w) (ha : Vs val ρ as [x]) (hf : rangeF as h = some (v, h')) :
    Eff P val ρ h w v h' (do pure (.value (← Instr.range t x))) := by
  obtain ⟨q, hq, hf2⟩ := orec_some hf
  have hq2 := list1_some hq
  subst hq2
  obtain ⟨_, h1, hV⟩ := Vs1 ha
  cases h1
  have hid : ρ h.next = none := hR.fr _ (Nat.le_refl _)
  clear hf
  rcases orec_or hf2 with ⟨_, hf⟩ | ⟨m, hm, hf⟩
  · obtain ⟨_, hn, hf⟩ := orec_some hf
    cases hf
    rw [nulIs_some hn] at hV
    obtain ⟨_, rfl⟩ := V_nul.1 hV
    refine new_eff (L := ⟨w.heap.size, 0, 0, false⟩) (nx := .value (.pointer (some ⟨w.heap.size, 0, none⟩))) hR (grew_push w (.mapIter none 0 #[] 0)) rfl ⟨rfl, rfl, none, by simp, fun _ => rfl, fun r hr => by cases hr⟩ ?_ rfl (V_ptr.2 ⟨_, upd_self _ _ _, rfl⟩)
    simp [Instr.range, und_run hu, nulV]
  · obtain ⟨p, hp, hf⟩ := orec_some hf
    cases hf
    rw [asMap_some] at hm
    subst hm
    obtain ⟨L, arr, hL, hro, rfl, hbk, hE⟩ := map_at hR hp hV
    refine new_eff (L := ⟨w.heap.size, 0, 0, false⟩) (nx := .value (.pointer (some ⟨w.heap.size, 0, none⟩))) hR (grew_push w (.mapIter (some L.blk) p.2 #[] p.2)) rfl ⟨rfl, rfl, some L.blk, by simp, (fun h0 => by cases h0), (fun r hr => by cases hr; exact ⟨L, Ext.upd hid _ _ hL, rfl⟩)⟩ ?_ rfl (V_ptr.2 ⟨_, upd_self _ _ _, rfl⟩)
    simp [Instr.range, und_run hu, getMap_run hbk]

theorem delete_eff {h h' : Hp} {kt : KT} {t el : TypeId} {ts : List TypeId} {ty : TypeId} {x y : Value} {as : List AV} {v : AV} (hm : map? P t = some (kt, el)) (hR : R val ρ h.get h.next w) (ha : Vs val ρ as [x, y]) (hf : deleteF kt as h = some (v, h')) :
    Eff P val ρ h w v h' (do pure (.value (← Builtin.delete_ (t :: ts).toArray ty #[x, y]))) := by
  obtain ⟨kid, hu, hk⟩ := map_spec hm
  obtain ⟨q, hq, hf⟩ := orec_some hf
  obtain ⟨hko, hf2⟩ := brec_true hf
  have hq2 := list2_some hq
  subst hq2
  obtain ⟨_, _, h1, hV1, hV2⟩ := Vs2 ha
  cases h1
  have hchk := fun em => checkKey_run hk hko hV2 em w
  clear hf
  rcases orec_or hf2 with ⟨_, hf⟩ | ⟨r, hr, hf⟩
  · obtain ⟨_, hn, hf⟩ := orec_some hf
    cases hf
    rw [nulIs_some hn] at hV1
    obtain ⟨_, rfl⟩ := V_nul.1 hV1
    exact same_eff (nx := .value (.tuple #[])) hR (by simp [Builtin.delete_, und_run hu, nulV, hchk]) rfl (V_tup.2 ⟨_, rfl, Vs_nil⟩)
  · obtain ⟨hf, hv⟩ := done_some hf
    cases hv
    obtain ⟨p, hp, hf⟩ := orec_some hf
    obtain ⟨f, hfind, hf⟩ := orec_some hf
    rw [asMap_some] at hr
    rw [hr] at hV1
    obtain ⟨L, arr, hL, hro, rfl, hbk, hE⟩ := map_at hR hp hV1
    obtain ⟨rr, hrr, hF⟩ := find_run hk hko hV2 hfind hE w
    have hg := mapX_some hp
    cases f with
    | none =>
      have hr0 : rr = none := hF
      subst hr0
      have hf : some (h.put r (.mp p.1 p.2)) = some h' := hf
      cases hf
      refine put_eff hR hg hL hro (wrote_set w L.blk (.map arr p.2)) (nx := .value (.tuple #[])) ⟨hro, _, set_get hbk, hE⟩ ?_ rfl (V_tup.2 ⟨_, rfl, Vs_nil⟩)
      simp [Builtin.delete_, und_run hu, getMap_run hbk, hchk, hrr, setMap_run _ hbk]
    | some s =>
      obtain ⟨en, hen, _, rfl, hV, hborn, hkey, hsame⟩ := hF
      have hf : some (h.put r (.mp (delNth p.1 s.1) p.2)) = some h' := hf
      cases hf
      refine put_eff hR hg hL hro (wrote_set w L.blk (.map (arr.eraseIdxIfInBounds s.1) p.2)) (nx := .value (.tuple #[])) ⟨hro, _, set_get hbk, ?_⟩ ?_ rfl (V_tup.2 ⟨_, rfl, Vs_nil⟩)
      · rw [delNth_eq]
        have : (arr.eraseIdxIfInBounds s.1).toList = arr.toList.eraseIdx s.1 := by simp
        rw [this]
        exact Es_erase hE s.1
      · simp [Builtin.delete_, und_run hu, getMap_run hbk, hchk, hrr, setMap_run _ hbk]

theorem clear_eff (hval : ∀ i, (val i).oneCell' = true) {h h' : Hp} {t el ty : TypeId} {n : Nat} {z : AV} {x : Value} {as : List AV} {v : AV} (hu : P.underlying t = some (.slice el)) (hz : zero? P el = some (z, n + 1)) (hR : R val ρ h.get h.next w) (ha : Vs val ρ as [x]) (hf : clearF (n + 1) z as h = some (v, h')) :
    Eff P val ρ h w v h' (do pure (.value (← Builtin.clear_ #[t] ty #[x]))) := by
  obtain ⟨q, hq, hf2⟩ := orec_some hf
  have hq2 := list1_some hq
  subst hq2
  obtain ⟨_, h1, hV⟩ := Vs1 ha
  cases h1
  obtain ⟨zv, hz1, hz2, hz3, hz4, hzV, hzc⟩ := zero_run (val := val) (ρ := ρ) hz w
  clear hf
  rcases orec_or hf2 with ⟨_, hf⟩ | ⟨s, hs, hf⟩
  · obtain ⟨_, hn, hf⟩ := orec_some hf
    cases hf
    rw [nulIs_some hn] at hV
    obtain ⟨_, rfl⟩ := V_nul.1 hV
    exact same_eff (nx := .value (.tuple #[])) hR (by simp [Builtin.clear_, und_run hu, nulV]) rfl (V_tup.2 ⟨_, rfl, Vs_nil⟩)
  · obtain ⟨hsz, hf⟩ := brec_true hf
    have hsz := Nat.eq_of_beq_eq_true hsz
    rw [asSlc_some] at hs
    rw [hs] at hV
    obtain ⟨L, ad, c, hL, rfl, hlen, _, hc⟩ := V_slc.1 hV
    cases hl : Nat.beq s.len 0 with
    | true =>
      rw [hl] at hf
      cases hf
      have hl := Nat.eq_of_beq_eq_true hl
      rw [hl]
      exact same_eff (nx := .value (.tuple #[])) hR (by simp [Builtin.clear_, und_run hu]) rfl (V_tup.2 ⟨_, rfl, Vs_nil⟩)
    | false =>
      rw [hl] at hf
      obtain ⟨hf, hv⟩ := done_some hf
      cases hv
      obtain ⟨cs, hcs, hf⟩ := orec_some hf
      obtain ⟨cs', hw, hf⟩ := orec_some hf
      cases hf
      have hne : s.len ≠ 0 := fun k => by rw [k] at hl; cases hl
      rcases hc with rfl | ⟨rfl, hcap⟩
      · omega
      have hg := mrow_some hcs
      obtain ⟨L', hL', hro, cc, elt, f, k1, k2, k3, k4, k5⟩ := hR.ob _ _ hg
      rw [hL] at hL'
      cases hL'
      obtain ⟨w1, w2, w3⟩ := wr_some hw
      have hcl : Vs val ρ (rep z.cells s.len) (Builtin.zeroCells zv.cells s.len).toList := rep_Vs hzc s.len _ rfl
      have hl := Vs_len hcl
      have hone := Vs_one hval w3 hcl
      rw [Array.length_toList] at hl
      obtain ⟨w', c', s1, s2, s3, s4, s5⟩ := storeCells_run (P := P) L.blk (L.sh + s.off) elt f (Builtin.zeroCells zv.cells s.len).toList 0 cc w k1 (by rw [Array.length_toList, hl]; omega)
        (fun j hj => k5 rfl _ (by rw [Array.length_toList, hl] at hj; omega)) hone
      refine put_eff hR hg hL hro s2 (nx := .value (.tuple #[])) ⟨hro, c', elt, f, s3, by rw [s4, k2], by rw [wr_len hw]; exact k3, fun i a hi => ?_, fun _ => k5 rfl⟩ ?_ rfl (V_tup.2 ⟨_, rfl, Vs_nil⟩)
      · rw [wr_get hw] at hi
        rw [s5]
        simp only [Nat.add_zero, Array.length_toList, hl]
        by_cases hc : s.off ≤ i ∧ i < s.off + (rep z.cells s.len).length
        · rw [if_pos hc] at hi
          rw [if_pos (by omega)]
          obtain ⟨u, hu, hV⟩ := Vs_get hcl hi
          exact ⟨u, by rw [show L.sh + i - (L.sh + s.off) = i - s.off by omega]; exact hu, hV⟩
        · rw [if_neg hc] at hi
          rw [if_neg (by omega)]
          exact k4 i a hi
      · cases hsl : s.len with
        | zero => exact absurd hsl hne
        | succ m =>
          rw [hsl] at s1
          simp [Builtin.clear_, und_run hu, hz1, s1]
end
end Go.Ev
