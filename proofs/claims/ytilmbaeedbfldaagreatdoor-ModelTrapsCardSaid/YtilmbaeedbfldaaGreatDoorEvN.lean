/- 'append' and all operations that change the memory. -/
import Derived.Test.YtilmbaeedbfldaaGreatDoorEvM
set_option linter.unusedVariables false
set_option linter.unusedSimpArgs false
set_option linter.unusedSectionVars false
namespace Go.Ev

variable {P : Program} {val : Nat → Value} {ρ : Rho}

section
variable {e : Operand → Value} {o : Oper} {w : World}

theorem flatL_all {l : List AV} (h : flatL l = true) : ∀ x ∈ l, x.one = true := by
  induction l with
  | nil => intro x hx; cases hx
  | cons a l ih =>
    have e : flatL (a :: l) = Bool.rec false (flatL l) a.one := rfl
    rw [e] at h
    cases ha : a.one with
    | false => simp [ha] at h
    | true =>
      simp [ha] at h
      intro x hx
      rcases List.mem_cons.1 hx with rfl | hx
      · exact ha
      · exact ih h x hx

theorem append_eff (hval : ∀ i, (val i).oneCell' = true) {h h' : Hp} {t u ty : TypeId} {f : Fef} {x y : Value} {as : List AV} {v : AV} (hK : appK P t u = .ef f) (hR : R val ρ h.get h.next w) (ha : Vs val ρ as [x, y]) (hf : runEf f as h = some (v, h')) :
    Eff P val ρ h w v h' (do pure (.value (← Builtin.append_ #[t, u] ty #[x, y]))) := by
  unfold appK at hK
  split at hK
  · cases hK
  rename_i _ _ el d hno hel hd
  split at hK
  rotate_left
  · cases hK
  · cases hK
  rename_i z n hz
  obtain ⟨hsm, hK⟩ := bif_no hK (by simp)
  cases hK
  have hu : P.underlying t = some (.slice el) := by
    unfold elem? at hel
    split at hel
    · cases hel; assumption
    · cases hel
  have hni : ∀ d', P.underlying u = some d' → ∀ k, d' ≠ .int k := fun d' hd' k hk => hno k (by rw [hd] at hd'; rw [Option.some.inj hd', hk])
  have hsome : ∃ d', P.underlying u = some d' := ⟨d, hd⟩
  obtain ⟨info, zv, hinfo, hzv, hsize, _, hzs, _, hzc⟩ := zero_spec (val := val) (ρ := ρ) hz
  have hby : info.bytes ≤ 65536 := by
    unfold small at hsm
    rw [hinfo] at hsm
    exact Nat.le_of_ble_eq_true hsm
  have hszq : sz? P el = some (n + 1) := by simp [sz?, hinfo, hsize]
  obtain ⟨q, hq, hf1⟩ := orec_some hf
  clear hf
  have hq2 := list2_some hq
  subst hq2
  obtain ⟨_, _, h1, hV1, hV2⟩ := Vs2 ha
  cases h1
  obtain ⟨p, hp, hf2⟩ := orec_some hf1
  clear hf1
  obtain ⟨hfl, hf⟩ := brec_true hf2
  clear hf2
  obtain ⟨us, l1, l2, l3, l4⟩ := appended_sound (P := P) (w := w) (n := n + 1) (m := p.1) (l := p.2) hR.ob hp hV2
  obtain ⟨us', _, l2', l3', _⟩ := appended_sound (P := P) (w := w.drew) (n := n + 1) (m := p.1) (l := p.2) (fun r o ho => hR.ob r o ho) hp hV2
  have hone := Vs_one hval (flatL_all hfl) l3
  have hl3 := Vs_len l3
  have hid : ρ h.next = none := hR.fr _ (Nat.le_refl _)
  -- in place, nothing appended
  have none0 : ∀ (a : AV) (b : Option Addr) (k c : Nat), x = .slice b k c → k ≤ c → V val ρ a x → p.1 = 0 → Eff P val ρ h w a h (do pure (.value (← Builtin.append_ #[t, u] ty #[x, y]))) := by
    intro a b k c hx hkc hV h0
    have hus : us = [] := List.eq_nil_of_length_eq_zero (by rw [l4, h0]; simp)
    subst hus
    refine same_eff (nx := .value (.slice b k c)) hR ?_ rfl (hx ▸ hV)
    rw [hx]
    have := room_run (P := P) (ty := ty) (w' := w) hu hni hsome hszq l1 (by omega : k + p.1 ≤ c) l2 (base := b) (fun a _ => rfl) (fun _ => rfl)
    rw [h0, Nat.add_zero] at this
    simp [this]
  -- a new row
  have fresh : ∀ (k c : Nat) (b : Option Addr) (l0 : List AV) (us0 : List Value), x = .slice b k c → c < k + p.1 → k + p.1 < 1048576 → (Builtin.firstCells (n + 1) k x).run P w.drew = .ok us0.toArray w.drew → Vs val ρ l0 us0 → l0.length = k * (n + 1) →
      Eff P val ρ h w (.slc h.next 0 (k + p.1) (n + 1) none) (h.new (.row false (cat l0 p.2))) (do pure (.value (← Builtin.append_ #[t, u] ty #[x, y]))) := by
    intro k c b l0 us0 hx hgt hsmall hfc hV0 hl0
    have hrun := grow_run (P := P) (w := w) (ty := ty) (x := y) hu hni hsome hinfo hzv hsize hby hx l1 hgt hsmall hfc l2'
    have hge := grownCap_ge w (k + p.1) c el
    have hVs : Vs val ρ (cat l0 p.2) (us0 ++ us') := by rw [cat_eq]; exact Vs_append hV0 l3'
    have hlV := Vs_len hVs
    rw [cat_len, hl0, hl3.symm, l4, ← Nat.add_mul] at hlV
    have hsz : (us0.toArray ++ us'.toArray ++ Builtin.zeroCells zv.cells (grownCap w (k + p.1) c el - (k + p.1))).size = grownCap w (k + p.1) c el * (n + 1) := by
      rw [Array.size_append, size_zeroCells, hzs]
      have : (us0.toArray ++ us'.toArray).size = (k + p.1) * (n + 1) := by simpa using hlV
      rw [this, ← Nat.add_mul]
      congr 1; omega
    refine new_eff (L := ⟨w.heap.size, 0, (us0.toArray ++ us'.toArray ++ Builtin.zeroCells zv.cells (grownCap w (k + p.1) c el - (k + p.1))).size, false⟩) (nx := .value (.slice (some ⟨w.heap.size, 0, none⟩) (k + p.1) (grownCap w (k + p.1) c el))) hR (grew_alloc w.drew _).drew rfl
      (obr_new (w := w) (el := el) (f := (0, 0)) hid (alloc_last w.drew _) ?_ (.inr (Nat.le_refl _)) ?_) (by simp [hrun]) rfl (V_slc.2 ⟨_, _, _, upd_self _ _ _, rfl, hge, (fun k hk => by cases hk), .inr ⟨rfl, ?_⟩⟩)
    · rw [hsz, cat_len, hl0, hl3.symm, l4, ← Nat.add_mul]
      exact Nat.mul_le_mul_right _ hge
    · intro i a hi
      obtain ⟨v, hv, hV⟩ := Vs_get hVs hi
      refine ⟨v, ?_, hV⟩
      have hlt := (List.getElem?_eq_some_iff.1 hv).1
      rw [Array.getElem?_append_left (by simpa using hlt)]
      simpa using hv
    · rw [hsz]; simp
  have old0 : ∀ (b : Option Addr) (c : Nat), x = .slice b 0 c → (Builtin.firstCells (n + 1) 0 x).run P w.drew = .ok ([] : List Value).toArray w.drew := by
    intro b c hx
    subst hx
    cases b with
    | none => rfl
    | some a =>
      have : 0 * (n + 1) = 0 := Nat.zero_mul _
      simp only [Builtin.firstCells, this]; rfl
  rcases orec_or hf with ⟨_, hf3⟩ | ⟨s, hs, hf3⟩
  · obtain ⟨_, hn, hf4⟩ := orec_some hf3
    have hn := nulIs_some hn
    rw [hn] at hV1
    obtain ⟨_, hx⟩ := V_nul.1 hV1
    have hx : x = .slice none 0 0 := hx
    cases hb : Nat.beq p.1 0 with
    | true =>
      rw [hb] at hf4
      cases hf4
      rw [hn]
      exact none0 _ none 0 0 hx (Nat.le_refl _) hV1 (Nat.eq_of_beq_eq_true hb)
    | false =>
      rw [hb] at hf4
      obtain ⟨hlt, hf5⟩ := brec_true hf4
      cases hf5
      have hlt : p.1 < 1048576 := by simpa [Nat.blt_eq] using hlt
      have hne : p.1 ≠ 0 := fun k => by rw [k] at hb; cases hb
      have := fresh 0 0 none [] [] hx (by omega) (by omega) (old0 none 0 hx) Vs_nil (by simp)
      simp only [Nat.zero_add] at this
      exact this
  · obtain ⟨hsz, hf4⟩ := brec_true hf3
    clear hf3
    have hsz := Nat.eq_of_beq_eq_true hsz
    rw [asSlc_some] at hs
    rw [hs] at hV1
    have hV1' := hV1
    obtain ⟨L, ad, c, hL, hx, hlen, hcap, hc⟩ := V_slc.1 hV1
    rw [← hsz] at hc
    cases hb : Nat.beq p.1 0 with
    | true =>
      rw [hb] at hf4
      cases hf4
      rw [hs]
      exact none0 _ (some ad) s.len c hx hlen hV1' (Nat.eq_of_beq_eq_true hb)
    | false =>
      rw [hb] at hf4
      have hne : p.1 ≠ 0 := fun k => by rw [k] at hb; cases hb
      -- the cells that there are
      have olds : ∀ cs l0, row? (h.get s.r) = some cs → cut cs s.off (s.len * (n + 1)) = some l0 → ∃ us0 : List Value, (Builtin.firstCells (n + 1) s.len x).run P w.drew = .ok us0.toArray w.drew ∧ Vs val ρ l0 us0 ∧ l0.length = s.len * (n + 1) := by
        intro cs l0 hcs hl0
        have hlen0 := (cut_get hl0).1
        rcases hc with rfl | ⟨had, _⟩
        · have h0 : s.len = 0 := by omega
          rw [h0] at hlen0 ⊢
          have : l0 = [] := List.eq_nil_of_length_eq_zero (by rw [hlen0]; simp)
          subst this
          exact ⟨[], old0 (some ad) 0 (by rw [hx, h0]), Vs_nil, by simp⟩
        · obtain ⟨_, hcc⟩ := row_cells (w := w.drew) (fun r o ho => hR.ob r o ho) hL hcs
          obtain ⟨us0, h1, h2, _, h3⟩ := cut_cells (P := P) hcc hl0
          exact ⟨us0, by rw [hx, had]; simpa [Builtin.firstCells] using h3, h1, hlen0⟩
      -- in place
      have inplace : ∀ cs : List AV, mrow? (h.get s.r) = some cs → s.len + p.1 ≤ c → ∃ w' c' el' f, L.ro = false ∧ ad = ⟨L.blk, L.sh + s.off, none⟩ ∧ (Builtin.append_ #[t, u] ty #[x, y]).run P w = .ok (.slice (some ad) (s.len + p.1) c) w' ∧ Wrote w L.blk w' ∧ w'.heap[L.blk]? = some (.cells c' el' f) ∧
          c'.size = L.size ∧ (∀ i, i < L.size → ¬ (f.1 ≤ i ∧ i < f.2)) ∧ L.sh + cs.length ≤ L.size ∧ L.sh + s.off + c * (n + 1) ≤ L.size ∧
          ∀ i a, (if s.off + s.len * (n + 1) ≤ i ∧ i < s.off + s.len * (n + 1) + p.2.length then p.2[i - (s.off + s.len * (n + 1))]? else cs[i]?) = some a → ∃ v, c'[L.sh + i]? = some v ∧ V val ρ a v := by
        intro cs hcs hroom
        have hg := mrow_some hcs
        obtain ⟨L', hL', hro, cc, el', f, k1, k2, k3, k4, k5⟩ := hR.ob _ _ hg
        rw [hL] at hL'
        cases hL'
        rcases hc with rfl | ⟨had, hbnd⟩
        · omega
        have hin : s.len * (n + 1) + us.length ≤ c * (n + 1) := by rw [l4, ← Nat.add_mul]; exact Nat.mul_le_mul_right _ hroom
        obtain ⟨w', c', s1, s2, s3, s4, s5⟩ := storeCells_run (P := P) L.blk (L.sh + s.off + s.len * (n + 1)) el' f us 0 cc w k1 (by omega) (fun j hj => k5 rfl _ (by omega)) hone
        refine ⟨w', c', el', f, hro, had, ?_, s2, s3, by rw [s4, k2], k5 rfl, k3, hbnd, fun i a hi => ?_⟩
        · rw [hx]
          refine room_run (P := P) hu hni hsome hszq l1 hroom l2 (fun a ha => ?_) (fun h0 => by cases h0)
          cases ha
          rw [had, Addr.add_lit]
          exact s1
        · rw [s5]
          simp only [Nat.add_zero]
          by_cases hcnd : s.off + s.len * (n + 1) ≤ i ∧ i < s.off + s.len * (n + 1) + p.2.length
          · rw [if_pos hcnd] at hi
            rw [if_pos (by rw [hl3]; omega)]
            obtain ⟨v, hv, hV⟩ := Vs_get l3 hi
            exact ⟨v, by rw [show L.sh + i - (L.sh + s.off + s.len * (n + 1)) = i - (s.off + s.len * (n + 1)) by omega]; exact hv, hV⟩
          · rw [if_neg hcnd] at hi
            rw [if_neg (by rw [hl3]; omega)]
            exact k4 i a hi
      rcases orec_or hf4 with ⟨hcp, hf5⟩ | ⟨cc, hcp, hf5⟩
      · -- the capacity is not known
        clear hf4
        obtain ⟨cs, hcs, hf6⟩ := orec_some hf5
        obtain ⟨l0, hl0, hf7⟩ := orec_some hf6
        clear hf5 hf6
        obtain ⟨hlt, hf8⟩ := brec_true hf7
        cases hf8
        have hlt : s.len + p.1 < 1048576 := by simpa [Nat.blt_eq] using hlt
        by_cases hroom : s.len + p.1 ≤ c
        · obtain ⟨w', c', el', f, hro, had, hrun, hw, hbk, hsz', hfr, hle, hbnd, hcells⟩ := inplace cs hcs hroom
          have hg := mrow_some hcs
          have hlt' : num h.next < num (inc h.next) := by rw [num_inc]; omega
          have hlen0 : l0.length = s.len * (n + 1) ∧ ∀ i, i < s.len * (n + 1) → l0[i]? = cs[s.off + i]? := cut_get hl0
          have hO : ObR val (upd ρ h.next ⟨L.blk, L.sh + s.off, L.size, false⟩) ⟨L.blk, L.sh + s.off, L.size, false⟩ w'.heap (.row false (cat l0 p.2)) := by
            refine ⟨rfl, c', el', f, hbk, hsz', ?_, fun i a hi => ?_, fun _ => hfr⟩
            · have h1 : (cat l0 p.2).length = (s.len + p.1) * (n + 1) := by rw [cat_len, (show l0.length = s.len * (n + 1) from hlen0.1), hl3.symm, l4, ← Nat.add_mul]
              rw [h1]
              have := Nat.mul_le_mul_right (n + 1) hroom
              simp only; omega
            · rw [cat_eq] at hi
              obtain ⟨v, hv, hV⟩ := hcells (s.off + i) a (by
                by_cases hi2 : i < l0.length
                · rw [List.getElem?_append_left hi2] at hi
                  rw [if_neg (by rw [← hlen0.1]; omega), ← hlen0.2 i (by rw [← hlen0.1]; exact hi2)]
                  exact hi
                · rw [List.getElem?_append_right (by omega)] at hi
                  have := (List.getElem?_eq_some_iff.1 hi).1
                  rw [if_pos (by rw [← hlen0.1]; omega), ← hlen0.1, show s.off + i - (s.off + l0.length) = i - l0.length by omega]
                  exact hi)
              exact ⟨v, by rw [← Nat.add_assoc] at hv; exact hv, V_mono (Ext.upd hid) _ _ hV⟩
          refine ⟨upd ρ h.next ⟨L.blk, L.sh + s.off, L.size, false⟩, .value (.slice (some ad) (s.len + p.1) c), _, w', by simp [hrun], rfl, V_slc.2 ⟨⟨L.blk, L.sh + s.off, L.size, false⟩, ad, c, upd_self _ _ _, rfl, hroom, (fun k hk => by cases hk), .inr ⟨by rw [had]; rfl, by simpa using hbnd⟩⟩, ?_, ?_⟩
          · have := hR.rename (L' := ⟨L.blk, L.sh + s.off, L.size, false⟩) hid hlt' (Nat.le_of_lt hlt') hg hL hro hw rfl hO
            rw [Hp.get_new, Hp.get_del]
            exact this
          · have := Mv.rename (nx := h.next) (nx' := inc h.next) (o' := .row false (cat l0 p.2)) (L' := ⟨L.blk, L.sh + s.off, L.size, false⟩) hid (Nat.le_refl _) (Nat.le_of_lt hlt') hg hL hro hw rfl
            rw [Hp.get_new, Hp.get_del]
            exact this
        · obtain ⟨us0, k1, k2, k3⟩ := olds cs l0 (by rw [mrow_some hcs]; rfl) hl0
          obtain ⟨ρ', nx, u', w', e1, e2, e3, e4, e5⟩ := fresh s.len c (some ad) l0 us0 hx (by omega) hlt k1 k2 k3
          have hsub : ∀ k y, ((h.del s.r).new (.row false (cat l0 p.2))).get k = some y → (h.new (.row false (cat l0 p.2))).get k = some y := by
            intro k y hk
            rw [Hp.get_new, Hp.get_del] at hk
            rw [Hp.get_new]
            by_cases e : k = h.next
            · subst e
              rw [show (h.del s.r).next = h.next from rfl, upd_self] at hk
              rw [upd_self]; exact hk
            · rw [show (h.del s.r).next = h.next from rfl, upd_ne e] at hk
              rw [upd_ne e]
              unfold rem at hk
              split at hk
              · cases hk
              · exact hk
          exact ⟨ρ', nx, u', w', e1, e2, e3, e4.sub hsub, e5.sub hsub⟩
      · clear hf4
        have hcc := hcap cc hcp
        subst hcc
        cases hble : Nat.ble (s.len + p.1) cc with
        | true =>
          have hf5 : appIn s.r s.off s.len (n + 1) p.1 s.cap p.2 h = some (v, h') := by
            have : Nat.ble (Nat.add s.len p.1) cc = true := hble
            rw [this] at hf5; exact hf5
          have hroom := Nat.le_of_ble_eq_true hble
          obtain ⟨cs, hcs, hf6⟩ := orec_some hf5
          obtain ⟨cs', hw', hf7⟩ := orec_some hf6
          cases hf7
          obtain ⟨w', c', el', f, hro, had, hrun, hw, hbk, hsz', hfr, hle, hbnd, hcells⟩ := inplace cs hcs hroom
          refine put_eff (nx := .value (.slice (some ad) (s.len + p.1) cc)) hR (mrow_some hcs) hL hro hw ⟨hro, c', el', f, hbk, hsz', by rw [wr_len hw']; exact hle, fun i a hi => ?_, fun _ => hfr⟩ (by simp [hrun]) rfl
            (V_slc.2 ⟨L, ad, cc, hL, rfl, hroom, hcap, .inr ⟨had, hbnd⟩⟩)
          rw [wr_get hw'] at hi
          exact hcells i a hi
        | false =>
          have hf5 : (Bool.rec (appOut s.r s.off s.len (n + 1) p.1 p.2 h) (appNew (n + 1) p.1 p.2 h) (Nat.beq s.len 0) : Option (AV × Hp)) = some (v, h') := by
            have : Nat.ble (Nat.add s.len p.1) cc = false := hble
            rw [this] at hf5; exact hf5
          have hgt : cc < s.len + p.1 := by
            rcases Nat.lt_or_ge cc (s.len + p.1) with h | h
            · exact h
            · rw [Nat.ble_eq_true_of_le h] at hble; cases hble
          cases hl0 : Nat.beq s.len 0 with
          | true =>
            rw [hl0] at hf5
            have hl0 := Nat.eq_of_beq_eq_true hl0
            obtain ⟨hlt, hf6⟩ := brec_true hf5
            cases hf6
            have hlt : p.1 < 1048576 := by simpa [Nat.blt_eq] using hlt
            have := fresh 0 cc (some ad) [] [] (by rw [hx, hl0]) (by omega) (by omega) (old0 (some ad) cc (by rw [hx, hl0])) Vs_nil (by simp)
            simp only [Nat.zero_add] at this
            exact this
          | false =>
            rw [hl0] at hf5
            obtain ⟨cs, hcs, hf6⟩ := orec_some hf5
            obtain ⟨l0, hcut, hf7⟩ := orec_some hf6
            obtain ⟨hlt, hf8⟩ := brec_true hf7
            cases hf8
            have hlt : s.len + p.1 < 1048576 := by simpa [Nat.blt_eq] using hlt
            obtain ⟨us0, k1, k2, k3⟩ := olds cs l0 hcs hcut
            exact fresh s.len cc (some ad) l0 us0 hx hgt hlt k1 k2 k3

theorem Eff.of_run {h h' : Hp} {v : AV} {s s' : Sem Next} (hE : Eff P val ρ h w v h' s) (hs : s'.run P w = s.run P w) : Eff P val ρ h w v h' s' := by
  obtain ⟨ρ', nx, u, w', h1, h2⟩ := hE
  exact ⟨ρ', nx, u, w', hs.trans h1, h2⟩
/-- ALL OPERATIONS THAT CHANGE THE MEMORY, but calls. -/
theorem ef_sound (hval : ∀ i, (val i).oneCell' = true) {f : Fef} {as : List AV} {v : AV} {h h' : Hp} (hK : opK P o.op = .ef f) (hR : R val ρ h.get h.next w) (ha : Vs val ρ as ((opnds o.op).map e)) (hf : runEf f as h = some (v, h')) : Eff P val ρ h w v h' (execOp e o) := by
  have hS := opK_shape (P := P) (op := o.op) (by rw [hK]; simp)
  rw [hK] at hS
  obtain ⟨dst, op, type, pos, after, guard⟩ := o
  simp only at hS ha hK
  clear hK
  cases hS with
  | store t a x n ht => exact store_eff hval ht hR ha hf
  | insert t m x y k el hm => exact mapUpdate_eff hm hR ha hf
  | mapUpdate t m x y k el hm => exact mapUpdate_eff hm hR ha hf
  | mapEntry t m x k el z n hm hz => exact mapEntry_eff hm hz hR ha hf
  | entryStore t m s x => exact entryStore_eff hR ha hf
  | range t x a b hu => exact range_eff hu hR ha hf
  | next it => exact next_eff hR ha hf
  | callE c b f hb hk =>
    obtain ⟨callee, args, argTypes⟩ := c
    simp only at hb
    subst hb
    simp only [opnds] at ha
    have two : ∀ p : AV × AV, list2 as = some p → ∃ x y, args = #[x, y] := by
      intro p hp
      rw [list2_some hp] at ha
      have := Vs_len ha
      simp at this
      match args, this with
      | ⟨[x, y]⟩, _ => exact ⟨x, y, rfl⟩
    have one : ∀ p : AV, list1 as = some p → ∃ x, args = #[x] := by
      intro p hp
      rw [list1_some hp] at ha
      have := Vs_len ha
      simp at this
      match args, this with
      | ⟨[x]⟩, _ => exact ⟨x, rfl⟩
    unfold builtinK at hk
    split at hk
    · unfold lenK at hk
      (repeat' split at hk) <;> cases hk
    · rename_i t u hts
      have hf' := hf
      have hts' : argTypes = #[t, u] := by apply Array.toList_inj.1; exact hts
      subst hts'
      have : ∃ x y, args = #[x, y] := by
        unfold appK at hk
        split at hk
        · cases hk
        · split at hk
          · obtain ⟨_, hk⟩ := bif_no hk (by simp)
            cases hk
            obtain ⟨q, hq, _⟩ := orec_some hf
            exact two q hq
          · cases hk
        · cases hk
      obtain ⟨x, y, rfl⟩ := this
      refine (append_eff (ty := type) hval hk hR ha hf).of_run ?_
      simp [execOp, resolve, invoke, builtin]
    · cases hk
    · cases hk
    · rename_i t ts hts
      split at hk
      · rename_i kt el hm
        cases hk
        obtain ⟨q, hq, _⟩ := orec_some hf
        obtain ⟨x, y, rfl⟩ := two q hq
        have hts' : argTypes = (t :: ts).toArray := by apply Array.toList_inj.1; exact hts
        subst hts'
        refine (delete_eff (ts := ts) (ty := type) hm hR ha hf).of_run ?_
        simp [execOp, resolve, invoke, builtin]
      · cases hk
    · rename_i t hts
      split at hk
      · rename_i el hel
        split at hk
        · rename_i z n hz
          cases hk
          obtain ⟨q, hq, _⟩ := orec_some hf
          obtain ⟨x, rfl⟩ := one q hq
          have hts' : argTypes = #[t] := by apply Array.toList_inj.1; exact hts
          subst hts'
          have hu : P.underlying t = some (.slice el) := by
            unfold elem? at hel
            split at hel
            · cases hel; assumption
            · cases hel
          refine (clear_eff (ty := type) hval hu hz hR ha hf).of_run ?_
          simp [execOp, resolve, invoke, builtin]
        · cases hk
      · cases hk
    · cases hk
end
end Go.Ev
