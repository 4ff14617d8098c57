/- Operations of many operands. -/
import Derived.Test.YtilmbaeedbfldaaGreatDoorEvG
import Derived.Laws.Tables
set_option linter.unusedVariables false
set_option linter.unusedSimpArgs false
set_option linter.unusedSectionVars false
namespace Go.Ev

variable {P : Program} {val : Nat → Value} {ρ : Rho}

theorem setCells_get : ∀ (l : List Value) (k off : Nat) (cells : Array Value), off + k + l.length ≤ cells.size →
    ((l.zipIdx k).foldl (fun cs (x : Value × Nat) => cs.setIfInBounds (off + x.2) x.1) cells).size = cells.size ∧
    ∀ i, ((l.zipIdx k).foldl (fun cs (x : Value × Nat) => cs.setIfInBounds (off + x.2) x.1) cells)[i]? = if off + k ≤ i ∧ i < off + k + l.length then l[i - (off + k)]? else cells[i]?
  | [], k, off, cells, _ => by
    refine ⟨rfl, fun i => ?_⟩
    rw [if_neg (by simp)]; rfl
  | v :: l, k, off, cells, h => by
    simp only [List.length_cons] at h
    have ih := setCells_get l (k + 1) off (cells.setIfInBounds (off + k) v) (by simp; omega)
    rw [List.zipIdx_cons, List.foldl_cons]
    refine ⟨by rw [ih.1]; simp, fun i => ?_⟩
    rw [ih.2]
    simp only [List.length_cons]
    by_cases h1 : off + (k + 1) ≤ i ∧ i < off + (k + 1) + l.length
    · rw [if_pos h1, if_pos (by omega)]
      have : i - (off + k) = (i - (off + (k + 1))) + 1 := by omega
      rw [this]; rfl
    · rw [if_neg h1]
      by_cases h2 : i = off + k
      · subst h2
        rw [if_pos (by omega), Array.getElem?_setIfInBounds_self_of_lt (by omega)]
        simp
      · rw [if_neg (by omega), Array.getElem?_setIfInBounds_ne (by omega)]

theorem fill_sound (hval : ∀ i l, val i ≠ .agg l) (place : Nat → Option (Nat × Nat)) : ∀ (ps : List (Nat × Value)) (qs : List (Nat × Nat)) (vs cs cs' : List AV) (cells : Array Value),
    (ps.map fun p => place p.1) = qs.map some → Vs val ρ vs (ps.map (·.2)) → Vs val ρ cs cells.toList → fill qs vs cs = some cs' →
    ∃ cells', Instr.fill place cells ps = some cells' ∧ Vs val ρ cs' cells'.toList
  | [], qs, vs, cs, cs', cells, hq, hv, hc, h => by
    have : qs = [] := by cases qs <;> simp at hq ⊢
    subst this
    have : vs = [] := by
      have := Vs_len hv
      exact List.length_eq_zero_iff.1 (by simpa using this.symm)
    subst this
    cases h
    exact ⟨cells, rfl, hc⟩
  | p :: ps, qs, vs, cs, cs', cells, hq, hv, hc, h => by
    cases qs with
    | nil => simp at hq
    | cons q qs =>
      simp only [List.map_cons, List.cons.injEq] at hq
      obtain ⟨hq0, hq⟩ := hq
      cases vs with
      | nil => simp [Vs_nil_iff] at hv
      | cons a vs =>
        obtain ⟨u, r, hur, hV, hVs⟩ := Vs_cons_iff.1 hv
        simp only [List.map_cons, List.cons.injEq] at hur
        obtain ⟨rfl, rfl⟩ := hur
        have e : fill (q :: qs) (a :: vs) cs = Bool.rec none (Option.rec none (fun cs => fill qs vs cs) (wr cs q.1 a.cells)) (Nat.beq (lenL a.cells) q.2) := rfl
        rw [e] at h
        obtain ⟨hb, h⟩ := brec_true h
        obtain ⟨cs1, hw, h⟩ := orec_some h
        have hb := Nat.eq_of_beq_eq_true hb
        rw [lenL_eq] at hb
        have hcl := V_cells hV hval
        have hl := Vs_len hcl
        have hs := Vs_len hc
        simp at hl hs
        obtain ⟨hle, _, _⟩ := wr_some hw
        have hg := setCells_get p.2.cells.toList 0 q.1 cells (by simp; omega)
        simp only [Nat.add_zero] at hg
        have hfold : p.2.cells.zipIdx.foldl (fun cs (x : Value × Nat) => cs.setIfInBounds (q.1 + x.2) x.1) cells = (p.2.cells.toList.zipIdx 0).foldl (fun cs (x : Value × Nat) => cs.setIfInBounds (q.1 + x.2) x.1) cells := by
          rw [← Array.foldl_toList, Array.toList_zipIdx]
        have hcells : Vs val ρ cs1 (p.2.cells.zipIdx.foldl (fun cs (x : Value × Nat) => cs.setIfInBounds (q.1 + x.2) x.1) cells).toList := by
          rw [hfold]
          refine Vs_of_get ?_ fun i x hi => ?_
          · rw [wr_len hw]
            rw [← Array.size_eq_length_toList, hg.1, hs]
          · rw [wr_get hw] at hi
            rw [Array.getElem?_toList, hg.2]
            have hlen : p.2.cells.toList.length = a.cells.length := by simpa using hl
            rw [hlen]
            by_cases hc1 : q.1 ≤ i ∧ i < q.1 + a.cells.length
            · rw [if_pos hc1] at hi ⊢
              exact Vs_get hcl hi
            · rw [if_neg hc1] at hi ⊢
              obtain ⟨v, hv, hV⟩ := Vs_get hc hi
              exact ⟨v, by simpa using hv, hV⟩
        obtain ⟨cells', h1, h2⟩ := fill_sound hval place ps qs vs cs1 cs' (p.2.cells.zipIdx.foldl (fun cs (x : Value × Nat) => cs.setIfInBounds (q.1 + x.2) x.1) cells) hq hVs hcells h
        refine ⟨cells', ?_, h2⟩
        obtain ⟨i, v⟩ := p
        have hsz : v.cells.size = q.2 := by rw [← hb]; exact hl
        have hsz2 : q.1 + v.cells.size ≤ cells.size := by rw [show v.cells.size = a.cells.length from hl]; omega
        have hno : (v.cells.size ≠ q.2 || q.1 + v.cells.size > cells.size) = false := by simp [hsz]; omega
        simp only [Instr.fill, hq0, hno]
        exact h1

theorem picks_spec {l : List (Nat × Nat)} : ∀ {ps : List Nat} {qs}, picks l ps = some qs → (ps.map fun i => l[i]?) = qs.map some
  | [], qs, h => by cases h; rfl
  | i :: r, qs, h => by
    unfold picks at h
    split at h
    · rename_i p q hp hq
      cases h
      simp [hp, picks_spec hq]
    · cases h
theorem fieldPts_spec : ∀ {fs : List Field} {l}, fieldPts P fs = some l → fs.mapM (fun f => (P.info? f.type).map fun i => (f.offset, i.size)) = some l
  | [], l, h => by cases h; rfl
  | f :: fs, l, h => by
    unfold fieldPts at h
    split at h
    · rename_i n r hn hr
      cases h
      unfold sz? at hn
      cases hi : P.info? f.type with
      | none => simp [hi] at hn
      | some i =>
        simp [hi] at hn
        subst hn
        simp [List.mapM_cons, hi, fieldPts_spec hr]
    · cases h

/-- A value that may not be told. -/
def OV (val : Nat → Value) (ρ : Rho) : Option AV → Option Value → Prop
  | none, v => v = none
  | some a, v => ∃ u, v = some u ∧ V val ρ a u

theorem bounds_sound {e : Operand → Value} {lo hi mx : Option Operand} {vs : List AV} {b : OA × OA × OA} (h : bounds lo.isSome hi.isSome mx.isSome vs = some b)
    (hv : Vs val ρ vs ((lo.toList ++ hi.toList ++ mx.toList).map e)) : OV val ρ b.1 (lo.map e) ∧ OV val ρ b.2.1 (hi.map e) ∧ OV val ρ b.2.2 (mx.map e) := by
  have two : ∀ {a b : AV} {x y : Value}, Vs val ρ [a, b] [x, y] → V val ρ a x ∧ V val ρ b y := by
    intro a b x y h
    obtain ⟨_, _, h1, h2, h3⟩ := Vs_cons_iff.1 h
    cases h1
    obtain ⟨_, _, h1, h4, _⟩ := Vs_cons_iff.1 h3
    cases h1
    exact ⟨h2, h4⟩
  have one : ∀ {a : AV} {x : Value}, Vs val ρ [a] [x] → V val ρ a x := by
    intro a x h
    obtain ⟨_, _, h1, h2, h3⟩ := Vs_cons_iff.1 h
    cases h1
    exact h2
  have three : ∀ {a b c : AV} {x y z : Value}, Vs val ρ [a, b, c] [x, y, z] → V val ρ a x ∧ V val ρ b y ∧ V val ρ c z := by
    intro a b c x y z h
    obtain ⟨_, _, h1, h2, h3⟩ := Vs_cons_iff.1 h
    cases h1
    exact ⟨h2, two h3⟩
  cases lo with
  | none => cases hi with
    | none => cases mx with
      | none => rcases vs with _ | ⟨a, vs⟩ <;> cases h; exact ⟨rfl, rfl, rfl⟩
      | some m => rcases vs with _ | ⟨a, vs⟩ <;> cases h
    | some hh => cases mx with
      | none =>
        rcases vs with _ | ⟨a, _ | ⟨b', vs⟩⟩ <;> cases h
        exact ⟨rfl, ⟨_, rfl, one hv⟩, rfl⟩
      | some m =>
        rcases vs with _ | ⟨a, _ | ⟨b', _ | ⟨c, vs⟩⟩⟩ <;> cases h
        exact ⟨rfl, ⟨_, rfl, (two hv).1⟩, ⟨_, rfl, (two hv).2⟩⟩
  | some ll => cases hi with
    | none => cases mx with
      | none =>
        rcases vs with _ | ⟨a, _ | ⟨b', vs⟩⟩ <;> cases h
        exact ⟨⟨_, rfl, one hv⟩, rfl, rfl⟩
      | some m => rcases vs with _ | ⟨a, vs⟩ <;> cases h
    | some hh => cases mx with
      | none =>
        rcases vs with _ | ⟨a, _ | ⟨b', _ | ⟨c, vs⟩⟩⟩ <;> cases h
        exact ⟨⟨_, rfl, (two hv).1⟩, ⟨_, rfl, (two hv).2⟩, rfl⟩
      | some m =>
        rcases vs with _ | ⟨a, _ | ⟨b', _ | ⟨c, _ | ⟨d, vs⟩⟩⟩⟩ <;> cases h
        exact ⟨⟨_, rfl, (three hv).1⟩, ⟨_, rfl, (three hv).2.1⟩, ⟨_, rfl, (three hv).2.2⟩⟩

theorem upto_sound {v : OA} {u : Option Value} {n d m : Nat} (h : upto v n d = some m) (hV : OV val ρ v u) : (v = none ∧ u = none ∧ m = d) ∨ ∃ k, v.isSome = true ∧ u = some (.int k (m : Int)) ∧ m ≤ n := by
  rcases orec_or h with ⟨h1, h2⟩ | ⟨a, h1, h⟩
  · cases h2; subst h1; exact .inl ⟨rfl, hV, rfl⟩
  · obtain ⟨j, hj, h⟩ := orec_some h
    obtain ⟨hle, h⟩ := brec_true h
    cases h
    subst h1
    obtain ⟨w, rfl, hV⟩ := hV
    obtain ⟨k, rfl⟩ := asNat_V hj hV
    exact .inr ⟨k, rfl, rfl, Nat.le_of_ble_eq_true hle⟩

theorem bound_run {k : IntKind} {m n : Nat} (c : BoundsCode) (h : m ≤ n) (w : World) : (Instr.sliceBound (.int k (m : Int)) n c).run P w = .ok m w := by
  simp [Instr.sliceBound, asIntOf, h]

theorem bounds_run {isS : Bool} {len cap l h : Nat} {lo hi : OA} {ulo uhi : Option Value} {n : Nat} (hn : len ≤ n ∧ n ≤ cap) (hh : upto hi n len = some h) (hl : upto lo h 0 = some l) (h1 : OV val ρ lo ulo) (h2 : OV val ρ hi uhi) (w : World) :
    (Instr.sliceBounds isS len cap ulo uhi none).run P w = .ok (l, h, cap) w ∧ l ≤ h ∧ h ≤ cap := by
  rcases upto_sound hh h2 with ⟨_, rfl, rfl⟩ | ⟨k, _, rfl, hk⟩
  · rcases upto_sound hl h1 with ⟨_, rfl, rfl⟩ | ⟨k, _, rfl, hk⟩
    · exact ⟨by simp [Instr.sliceBounds], by omega, by omega⟩
    · exact ⟨by simp [Instr.sliceBounds, bound_run _ hk], by omega, by omega⟩
  · rcases upto_sound hl h1 with ⟨_, rfl, rfl⟩ | ⟨k', _, rfl, hk'⟩
    · refine ⟨?_, by omega, by omega⟩
      simp [Instr.sliceBounds, bound_run _ (Nat.le_trans hk hn.2)]
    · refine ⟨?_, by omega, by omega⟩
      simp [Instr.sliceBounds, bound_run _ (Nat.le_trans hk hn.2), bound_run _ hk']

theorem bounds_run3 {isS : Bool} {len cap l h m n : Nat} {lo : OA} {hv mv : AV} {ulo uhi umx : Option Value} (hn : n ≤ cap) (hm : upto (some mv) n 0 = some m) (hh : upto (some hv) m 0 = some h) (hl : upto lo h 0 = some l) (h1 : OV val ρ lo ulo)
    (h2 : OV val ρ (some hv) uhi) (h3 : OV val ρ (some mv) umx) (w : World) :
    (Instr.sliceBounds isS len cap ulo uhi umx).run P w = .ok (l, h, m) w ∧ l ≤ h ∧ h ≤ m ∧ m ≤ cap := by
  rcases upto_sound hm h3 with ⟨h0, _⟩ | ⟨k, _, rfl, hk⟩
  · cases h0
  rcases upto_sound hh h2 with ⟨h0, _⟩ | ⟨k', _, rfl, hk'⟩
  · cases h0
  rcases upto_sound hl h1 with ⟨_, rfl, rfl⟩ | ⟨k'', _, rfl, hk''⟩
  · exact ⟨by simp [Instr.sliceBounds, bound_run _ (Nat.le_trans hk hn), bound_run _ hk'], by omega, by omega, by omega⟩
  · exact ⟨by simp [Instr.sliceBounds, bound_run _ (Nat.le_trans hk hn), bound_run _ hk', bound_run _ hk''], by omega, by omega, by omega⟩

theorem slc_part {L : Loc} {r : Id} {off sz c l h m : Nat} {a : Addr} {cap' : Option Nat} (hL : ρ r = some L) (hc : c = 0 ∨ (a = ⟨L.blk, L.sh + off, none⟩ ∧ L.sh + off + c * sz ≤ L.size)) (h1 : l ≤ h) (h2 : h ≤ m) (h3 : m ≤ c)
    (hcap : ∀ k, cap' = some k → k = m - l) :
    V val ρ (.slc r (off + l * sz) (h - l) sz cap') (.slice (if m = l then some a else some (a.add (l * sz))) (h - l) (m - l)) := by
  rw [V_slc]
  by_cases e : m = l
  · refine ⟨L, a, m - l, hL, by rw [if_pos e], by omega, hcap, .inl (by omega)⟩
  · rcases hc with rfl | ⟨rfl, hc⟩
    · omega
    · refine ⟨L, ⟨L.blk, L.sh + (off + l * sz), none⟩, m - l, hL, ?_, by omega, hcap, .inr ⟨rfl, ?_⟩⟩
      · rw [if_neg e]
        simp [Addr.add_lit, Nat.add_assoc]
      · have : l * sz + (m - l) * sz ≤ c * sz := by rw [← Nat.add_mul]; exact Nat.mul_le_mul_right _ (by omega)
        omega

theorem slice_sound {t : TypeId} {lo hi mx : Option Value} {bl bh bm : Bool} {f : FnN} {as : List AV} {x : Value} {us : List Value} {v : AV} {w : World}
    (hk : sliceK P t bl bh bm = .pn f) (hf : runN f as = some v) (hx : ∀ a r, as = a :: r → V val ρ a x) (hb : ∀ a r b, as = a :: r → bounds bl bh bm r = some b → OV val ρ b.1 lo ∧ OV val ρ b.2.1 hi ∧ OV val ρ b.2.2 mx) :
    Tells val ρ P (Instr.sliceAt t x lo hi mx) w v := by
  unfold sliceK at hk
  split at hk
  · rename_i hu
    cases hk
    cases as with
    | nil => cases hf
    | cons a r =>
      obtain ⟨b, hb', hf⟩ := orec_some hf
      obtain ⟨o1, o2, o3⟩ := hb a r b rfl hb'
      have ha := hx a r rfl
      obtain ⟨p, hp, hf⟩ := orec_some hf
      rw [asStr_some] at hp
      subst hp
      obtain ⟨s, rfl, h1, h2⟩ := V_str.1 ha
      obtain ⟨b1, b2, b3⟩ := b
      cases b3 with
      | some m => cases hf
      | none =>
        obtain ⟨h, hh, hf⟩ := orec_some hf
        obtain ⟨l, hl, hf⟩ := orec_some hf
        cases hf
        have o3 : mx = none := o3
        subst o3
        have hs : s.size = p.2 := by rw [← h1]; simp
        obtain ⟨hr, hle, hle'⟩ := bounds_run (P := P) (isS := false) (cap := s.size) (len := s.size) (n := s.size) ⟨Nat.le_refl _, Nat.le_refl _⟩ (by rw [hs]; exact hh) hl o1 o2 w
        refine .mk (.string (s.extract l h)) ?_ (V_str.2 ⟨_, rfl, ?_, ?_⟩)
        · simp [Instr.sliceAt, Instr.slice, und_run hu, hr]
        · simp; exact Nat.min_eq_left (by omega)
        · have : (s.extract l h).data.toList = (s.data.toList.drop l).take (h - l) := by simp [ByteArray.data_extract]
          rw [this, sub_eq, h2]
  · rename_i el hu
    split at hk
    · rename_i m hm
      cases hk
      cases as with
      | nil => cases hf
      | cons a r =>
        obtain ⟨b, hb', hf⟩ := orec_some hf
        obtain ⟨o1, o2, o3⟩ := hb a r b rfl hb'
        have ha := hx a r rfl
        obtain ⟨b1, b2, b3⟩ := b
        rcases orec_or hf with ⟨_, hf⟩ | ⟨s, hs, hf⟩
        · obtain ⟨_, hn, hf⟩ := orec_some hf
          rw [nulIs_some hn] at ha
          obtain ⟨_, rfl⟩ := V_nul.1 ha
          cases b3 with
          | some m => cases hf
          | none =>
            obtain ⟨h, hh, hf⟩ := orec_some hf
            obtain ⟨l, hl, hf⟩ := orec_some hf
            cases hf
            have o3 : mx = none := o3
            subst o3
            obtain ⟨hr, hle, hle'⟩ := bounds_run (P := P) (isS := true) (cap := 0) (len := 0) (n := 0) ⟨Nat.le_refl _, Nat.le_refl _⟩ hh (show upto b1 h 0 = some l by have := (upto_sound hh o2); rcases this with ⟨_, _, h0⟩ | ⟨_, _, _, h0⟩ <;> (have : h = 0 := by omega) <;> (rw [this]; exact hl)) o1 o2 w
            have e1 : l = 0 := by omega
            have e2 : h = 0 := by omega
            subst e1 e2
            refine .mk (.slice none 0 0) ?_ (V_nul.2 ⟨by omega, rfl⟩)
            simp [Instr.sliceAt, Instr.slice, und_run hu, hr, nulV, sz_run hm]
        · obtain ⟨hsz, hf⟩ := brec_true hf
          have hsz := Nat.eq_of_beq_eq_true hsz
          rw [asSlc_some] at hs
          rw [hs] at ha
          obtain ⟨L, ad, c, hL, rfl, hlen, hcap, hc⟩ := V_slc.1 ha
          have most_le : s.len ≤ most s.cap s.len ∧ most s.cap s.len ≤ c := by
            cases hcp : s.cap with
            | none => exact ⟨Nat.le_refl _, hlen⟩
            | some k => have := hcap k hcp; subst this; exact ⟨hlen, Nat.le_refl _⟩
          cases b3 with
          | none =>
            obtain ⟨h, hh, hf⟩ := orec_some hf
            obtain ⟨l, hl, hf⟩ := orec_some hf
            cases hf
            have o3 : mx = none := o3
            subst o3
            obtain ⟨hr, hle, hle'⟩ := bounds_run (P := P) (isS := true) (cap := c) (len := s.len) (n := most s.cap s.len) most_le hh hl o1 o2 w
            refine .mk (.slice (if c = l then some ad else some (ad.add (l * m))) (h - l) (c - l)) ?_ ?_
            · simp [Instr.sliceAt, Instr.slice, und_run hu, hr, sz_run hm]
            · rw [hsz]
              refine slc_part hL hc hle hle' (Nat.le_refl _) ?_
              intro k hk
              cases hcp : s.cap with
              | none => rw [hcp] at hk; cases hk
              | some k' => rw [hcp] at hk; have := hcap k' hcp; subst this; cases hk; rfl
          | some mv =>
            obtain ⟨hv, hhv, hf⟩ := orec_some hf
            obtain ⟨m', hm', hf⟩ := orec_some hf
            obtain ⟨h, hh, hf⟩ := orec_some hf
            obtain ⟨l, hl, hf⟩ := orec_some hf
            cases hf
            have hhv : b2 = some hv := hhv
            subst hhv
            obtain ⟨hr, hle, hle', hle''⟩ := bounds_run3 (P := P) (isS := true) (cap := c) (len := s.len) (n := most s.cap s.len) most_le.2 hm' hh hl o1 o2 o3 w
            refine .mk (.slice (if m' = l then some ad else some (ad.add (l * m))) (h - l) (m' - l)) ?_ ?_
            · simp [Instr.sliceAt, Instr.slice, und_run hu, hr, sz_run hm]
            · rw [hsz]
              refine slc_part hL hc hle hle' hle'' ?_
              intro k hk
              cases hk
              rfl
    · cases hk
  · cases hk

theorem fold_most {g : AV → AV → Option AV} {g' : Value → Value → Sem Value} (hg : ∀ (a b c : AV) (u u' : Value) (w : World), g a b = some c → V val ρ a u → V val ρ b u' → Tells val ρ P (g' u u') w c) :
    ∀ (l : List AV) (us : List Value) (a c : AV) (u : Value) (w : World), foldO g l a = some c → V val ρ a u → Vs val ρ l us → Tells val ρ P (us.foldlM g' u) w c
  | [], us, a, c, u, w, h, ha, hs => by
    cases h
    rw [Vs_nil_iff.1 hs]
    exact .mk u (by simp) ha
  | b :: l, us, a, c, u, w, h, ha, hs => by
    have e : foldO g (b :: l) a = Option.rec none (fun c => foldO g l c) (g a b) := rfl
    rw [e] at h
    obtain ⟨d, hd, h⟩ := orec_some h
    obtain ⟨v, r, rfl, hV, hVs⟩ := Vs_cons_iff.1 hs
    obtain ⟨x, hx, hVx⟩ := hg a b d u v w hd ha hV
    obtain ⟨y, hy, hVy⟩ := fold_most hg l r d c x w h hVx hVs
    exact .mk y (by simp [List.foldlM_cons, hx, hy]) hVy

section
variable {e : Operand → Value} {o : Oper} {w : World}

theorem max2_sound (a b c : AV) (u u' : Value) (w : World) (h : max2 a b = some c) (ha : V val ρ a u) (hb : V val ρ b u') : Tells val ρ P (Builtin.max2 u u') w c := by
  obtain ⟨p, hp, h⟩ := orec_some h
  obtain ⟨q, hq, h⟩ := orec_some h
  cases h
  rw [asInt_some] at hp hq
  rw [hp] at ha
  rw [hq] at hb
  rw [V_int] at ha hb
  subst ha hb
  refine .mk _ (by simp [Builtin.max2]; rfl) (V_int.2 ?_)
  rw [iLt_eq]
  by_cases h : p.2 < q.2 <;> simp [h]
theorem min2_sound (a b c : AV) (u u' : Value) (w : World) (h : min2 a b = some c) (ha : V val ρ a u) (hb : V val ρ b u') : Tells val ρ P (Builtin.min2 u u') w c := by
  obtain ⟨p, hp, h⟩ := orec_some h
  obtain ⟨q, hq, h⟩ := orec_some h
  cases h
  rw [asInt_some] at hp hq
  rw [hp] at ha
  rw [hq] at hb
  rw [V_int] at ha hb
  subst ha hb
  refine .mk _ (by simp [Builtin.min2]; rfl) (V_int.2 ?_)
  rw [iLt_eq]
  by_cases h : q.2 < p.2 <;> simp [h]

theorem pn_sound (hval : ∀ i l, val i ≠ .agg l) {f : FnN} {as : List AV} {v : AV} (hK : opK P o.op = .pn f) (ha : Vs val ρ as ((opnds o.op).map e)) (hf : runN f as = some v) :
    ∃ u, (execOp e o).run P w = .ok (.value u) w ∧ V val ρ v u := by
  have hS := opK_shape (P := P) (op := o.op) (by rw [hK]; simp)
  rw [hK] at hS
  obtain ⟨dst, op, type, pos, after, guard⟩ := o
  have fin : ∀ s : Sem Value, Tells val ρ P s w v → ∃ u, (do pure (Next.value (← s)) : Sem Next).run P w = .ok (.value u) w ∧ V val ρ v u := by
    rintro s ⟨u, h, hV⟩
    exact ⟨u, by simp [h], hV⟩
  simp only at hS ha hK
  clear hK
  cases hS with
  | build t ps f hk =>
    refine fin _ ?_
    unfold buildK at hk
    have hparts : (ps.map fun (i, x) => (i, e x)).toList = ps.toList.map fun p => (p.1, e p.2) := by simp
    have hV2 : Vs val ρ as ((ps.toList.map fun p => (p.1, e p.2)).map (·.2)) := by
      simp only [opnds, List.map_map] at ha ⊢
      exact ha
    split at hk
    · rename_i fs z n hu hz
      obtain ⟨i, zv, hi, hzv, _, _, _, _, hzc⟩ := zero_spec (val := val) (ρ := ρ) hz
      split at hk
      · rename_i l hl
        split at hk
        · rename_i q hq
          cases hk
          obtain ⟨cs, hcs, hv⟩ := orec_some hf
          cases hv
          have hpl := picks_spec hq
          obtain ⟨cells, h1, h2⟩ := fill_sound hval (fun i => l[i]?) (ps.toList.map fun p => (p.1, e p.2)) q as z.cells cs zv.cells (by simp only [List.map_map] at hpl ⊢; exact hpl) hV2 hzc hcs
          refine .mk (.agg cells) (run_build w t _ cells ?_) (V_agg.2 ⟨_, rfl, h2⟩)
          unfold Program.built
          simp only [hi, hu, hzv, fieldPts_spec hl]
          rw [hparts]
          simpa using h1
        · cases hk
      · cases hk
    · rename_i n' el z n hu hz
      obtain ⟨i, zv, hi, hzv, _, _, _, _, hzc⟩ := zero_spec (val := val) (ρ := ρ) hz
      split at hk
      · rename_i m hm
        cases hk
        obtain ⟨cs, hcs, hv⟩ := orec_some hf
        cases hv
        obtain ⟨cells, h1, h2⟩ := fill_sound hval (fun i => some (i * m, m)) (ps.toList.map fun p => (p.1, e p.2)) _ as z.cells cs zv.cells (by simp [List.map_map]) hV2 hzc hcs
        refine .mk (.agg cells) (run_build w t _ cells ?_) (V_agg.2 ⟨_, rfl, h2⟩)
        unfold Program.built
        unfold sz? at hm
        cases hie : P.info? el with
        | none => simp [hie] at hm
        | some ie =>
          simp [hie] at hm
          simp only [hi, hu, hzv, hie, hm]
          rw [hparts]
          exact h1
      · cases hk
    · cases hk
  | slice t x lo hi mx f hk =>
    refine fin _ ?_
    simp only [opnds, List.map_cons] at ha
    refine slice_sound (us := []) hk hf ?_ ?_
    · rintro a r rfl
      obtain ⟨v, r', h1, h2, _⟩ := Vs_cons_iff.1 ha
      cases h1
      exact h2
    · rintro a r b rfl hb
      obtain ⟨v, r', h1, _, h3⟩ := Vs_cons_iff.1 ha
      cases h1
      exact bounds_sound hb h3
  | makeFunc fn a b =>
    refine fin _ ?_
    obtain ⟨l, hl, hv⟩ := orec_some hf
    cases hv
    obtain ⟨hle, rfl⟩ := takeL_some hl
    simp only [opnds, List.map_append] at ha
    refine .mk (.func (.func fn) (a.map e) (b.map e)) (by simp [Instr.makeFunc]) (V_fn.2 ⟨_, _, rfl, ?_, ?_⟩)
    · have := Vs_take ha a.size
      simpa using this
    · have := Vs_drop ha a.size
      rw [dropL_eq]
      simpa using this
  | callN c b f hb hk =>
    obtain ⟨callee, args, argTypes⟩ := c
    simp only at hb
    subst hb
    simp only [opnds] at ha
    have most : ∀ {g : AV → AV → Option AV} {g' : Value → Value → Sem Value} {s : Sem Value}, (∀ (a b c : AV) (u u' : Value) (w : World), g a b = some c → V val ρ a u → V val ρ b u' → Tells val ρ P (g' u u') w c) →
        mostF g as = some v → (∀ x r, (args.toList.map e) = x :: r → s = r.foldlM g' x) → Tells val ρ P s w v := by
      intro g g' s hg h hs
      cases as with
      | nil => cases h
      | cons a l =>
        obtain ⟨p, _, h⟩ := orec_some h
        obtain ⟨u, r, h1, h2, h3⟩ := Vs_cons_iff.1 ha
        rw [hs u r h1]
        exact fold_most hg l r a v u w h h2 h3
    unfold builtinK at hk
    split at hk
    · unfold lenK at hk
      (repeat' split at hk) <;> cases hk
    · unfold appK at hk; (repeat' split at hk) <;> first | (cases hk; done) | (have hk := (bif_no hk (by simp)).2; cases hk)
    · cases hk
      obtain ⟨u, h, hV⟩ := most (s := Builtin.max_ argTypes type (args.map e)) max2_sound hf (fun x r h => by simp [Builtin.max_, h])
      exact ⟨u, by simp [execOp, resolve, invoke, builtin, h], hV⟩
    · cases hk
      obtain ⟨u, h, hV⟩ := most (s := Builtin.min_ argTypes type (args.map e)) min2_sound hf (fun x r h => by simp [Builtin.min_, h])
      exact ⟨u, by simp [execOp, resolve, invoke, builtin, h], hV⟩
    · split at hk <;> cases hk
    · (repeat' split at hk) <;> cases hk
    · cases hk
end
end Go.Ev
