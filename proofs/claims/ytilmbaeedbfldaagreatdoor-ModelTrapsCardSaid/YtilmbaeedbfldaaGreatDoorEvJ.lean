/- Operations that make new memory. -/
import Derived.Test.YtilmbaeedbfldaaGreatDoorEvI
import Derived.Laws.IdiomStrings
set_option linter.unusedVariables false
set_option linter.unusedSimpArgs false
set_option linter.unusedSectionVars false
namespace Go.Ev

variable {P : Program} {val : Nat → Value} {ρ : Rho}

theorem cat_len {α : Type} (l m : List α) : (cat l m).length = l.length + m.length := by rw [cat_eq]; simp
theorem rep_succ (z : List AV) (n : Nat) : rep z (n + 1) = cat z (rep z n) := rfl
theorem rep_len (z : List AV) : ∀ n, (rep z n).length = n * z.length
  | 0 => by rw [Nat.zero_mul]; rfl
  | n + 1 => by rw [rep_succ, cat_len, rep_len z n, Nat.succ_mul]; omega
theorem rep_get (z : List AV) : ∀ (n i : Nat), i < n * z.length → (rep z n)[i]? = z[i % z.length]?
  | 0, i, h => by simp at h
  | n + 1, i, h => by
    rw [rep_succ, cat_eq]
    by_cases hi : i < z.length
    · rw [List.getElem?_append_left hi, Nat.mod_eq_of_lt hi]
    · rw [List.getElem?_append_right (by omega), rep_get z n (i - z.length) (by rw [Nat.succ_mul] at h; omega)]
      rw [Nat.mod_eq_sub_mod (a := i) (by omega)]
theorem rep_Vs {z : List AV} {zs : Array Value} (h : Vs val ρ z zs.toList) (n m : Nat) (hm : m = n * zs.size) : Vs val ρ (rep z n) ((Array.range m).map (zs[· % zs.size]!)).toList := by
  have hl := Vs_len h
  simp at hl
  refine Vs_of_get (by rw [rep_len, ← hl]; simp [hm]) fun i a hi => ?_
  have hlt : i < n * z.length := by rw [← rep_len]; exact (List.getElem?_eq_some_iff.1 hi).1
  rw [rep_get z n i hlt] at hi
  obtain ⟨v, hv, hV⟩ := Vs_get h hi
  refine ⟨v, ?_, hV⟩
  rw [hl]
  have hlt' : i < m := by rw [hm, hl]; exact hlt
  simp [hlt']
  rw [← hl] at hv ⊢
  simp at hv
  obtain ⟨h1, h2⟩ := Array.getElem?_eq_some_iff.1 hv
  rw [getElem!_pos zs _ h1, h2]

theorem fill_len : ∀ {ps : List (Nat × Nat)} {vs cs cs' : List AV}, fill ps vs cs = some cs' → cs'.length = cs.length
  | [], vs, cs, cs', h => by cases vs <;> cases h; rfl
  | p :: ps, vs, cs, cs', h => by
    cases vs with
    | nil => cases h
    | cons v vs =>
      have e : fill (p :: ps) (v :: vs) cs = Bool.rec none (Option.rec none (fun cs => fill ps vs cs) (wr cs p.1 v.cells)) (Nat.beq (lenL v.cells) p.2) := rfl
      rw [e] at h
      obtain ⟨_, h⟩ := brec_true h
      obtain ⟨c1, hw, h⟩ := orec_some h
      rw [fill_len h, wr_len hw]

/-- New rows. -/
theorem grew_push (w : World) (o : Obj) : Grew w { w with heap := w.heap.push o } where
  size := by simp
  other := fun i hi => by simp [Array.getElem?_push]; intro h; omega
  os := rfl
  tape := rfl
  output := rfl
theorem grew_alloc (w : World) (o : Obj) : Grew w (w.alloc o) := grew_push w o
theorem Grew.drew {w w' : World} (h : Grew w.drew w') : Grew w w' := ⟨h.size, h.other, h.os, h.tape, h.output⟩
theorem alloc_last (w : World) (o : Obj) : (w.alloc o).heap[w.heap.size]? = some o := by
  show (w.heap.push o)[w.heap.size]? = some o
  simp
theorem obr_new {w w' : World} {id : Id} {cs : List AV} {c : Array Value} {el : TypeId} {f : Nat × Nat} (hid : ρ id = none) (hw : w'.heap[w.heap.size]? = some (.cells c el f)) (hle : cs.length ≤ c.size) (hf : c.size ≤ f.1 ∨ f.2 ≤ f.1)
    (hs : ∀ (i : Nat) (a : AV), cs[i]? = some a → ∃ v : Value, c[i]? = some v ∧ V val ρ a v) : ObR val (upd ρ id ⟨w.heap.size, 0, c.size, false⟩) ⟨w.heap.size, 0, c.size, false⟩ w'.heap (.row false cs) := by
  refine ⟨rfl, c, el, f, hw, rfl, by simpa using hle, fun i a hi => ?_, fun _ i hi => ?_⟩
  · obtain ⟨v, hv, hV⟩ := hs i a hi
    exact ⟨v, by simpa using hv, V_mono (Ext.upd hid) _ _ hV⟩
  · simp at hi ⊢; intro h; omega
theorem obr_push {w : World} {id : Id} {cs : List AV} {c : Array Value} {el : TypeId} (hid : ρ id = none) (hs : Vs val ρ cs c.toList) :
    ObR val (upd ρ id ⟨w.heap.size, 0, c.size, false⟩) ⟨w.heap.size, 0, c.size, false⟩ (w.heap.push (.cells c el)) (.row false cs) := by
  have hl := Vs_len hs
  simp at hl
  have := obr_new (val := val) (w := w) (w' := { w with heap := w.heap.push (.cells c el) }) (cs := cs) (c := c) (el := el) (f := (0, 0)) hid (by simp) (by omega) (.inr (Nat.le_refl _)) (fun i a hi => by
    obtain ⟨v, hv, hV⟩ := Vs_get hs hi
    exact ⟨v, by simpa using hv, hV⟩)
  exact this

section
variable {e : Operand → Value} {o : Oper} {w : World}

/-- What an operation that makes new memory comes to. -/
def Makes (val : Nat → Value) (ρ : Rho) (P : Program) (s : Sem Value) (w : World) (nw : Nw) (id : Id) : Prop :=
  ∃ u w' L, s.run P w = .ok u w' ∧ Grew w w' ∧ L.blk = w.heap.size ∧ V val (upd ρ id L) (nw.v id) u ∧ ObR val (upd ρ id L) L w'.heap nw.o

theorem al_sound (hval : ∀ i l, val i ≠ .agg l) {f : Fal} {as : List AV} {nw : Nw} (hK : opK P o.op = .al f) (ha : Vs val ρ as ((opnds o.op).map e)) (hf : runAl f as = some nw) (id : Id) (hid : ρ id = none) :
    ∃ u w' L, (execOp e o).run P w = .ok (.value u) w' ∧ Grew w w' ∧ L.blk = w.heap.size ∧ V val (upd ρ id L) (nw.v id) u ∧ ObR val (upd ρ id L) L w'.heap nw.o := by
  have hS := opK_shape (P := P) (op := o.op) (by rw [hK]; simp)
  rw [hK] at hS
  obtain ⟨dst, op, type, pos, after, guard⟩ := o
  have fin : ∀ s : Sem Value, Makes val ρ P s w nw id → ∃ u w' L, (do pure (Next.value (← s)) : Sem Next).run P w = .ok (.value u) w' ∧ Grew w w' ∧ L.blk = w.heap.size ∧ V val (upd ρ id L) (nw.v id) u ∧ ObR val (upd ρ id L) L w'.heap nw.o := by
    rintro s ⟨u, w', L, h, hr⟩
    exact ⟨u, w', L, by simp [h], hr⟩
  simp only at hS ha hK
  clear hK
  cases hS with
  | alloc el z n hz =>
    refine fin _ ?_
    cases hf
    obtain ⟨zv, h1, h2, h3, h4, h5, h6⟩ := zero_run (val := val) (ρ := ρ) hz w
    refine ⟨.pointer (some ⟨w.heap.size, 0, none⟩), _, ⟨w.heap.size, 0, zv.cells.size, false⟩, ?_, grew_push w (.cells zv.cells el), rfl, V_ptr.2 ⟨_, upd_self _ _ _, rfl⟩, obr_push hid h6⟩
    simp [Instr.alloc, h1, newVar, newRow]
  | box el x =>
    refine fin _ ?_
    obtain ⟨v, hv, hf⟩ := orec_some hf
    cases hf
    simp only [opnds, Op.operands] at ha
    obtain ⟨u, r, hu, hV, hVs⟩ := Vs_cons_iff.1 (show Vs val ρ (v :: []) [e x] by
      cases as with
      | nil => cases hv
      | cons a as => cases as with
        | nil => cases hv; simpa using ha
        | cons b as => cases hv)
    cases hu
    refine ⟨.pointer (some ⟨w.heap.size, 0, none⟩), _, ⟨w.heap.size, 0, (e x).cells.size, false⟩, ?_, grew_push w (.cells (e x).cells el), rfl, V_ptr.2 ⟨_, upd_self _ _ _, rfl⟩, obr_push hid (V_cells hV hval)⟩
    simp [Instr.box, newVar, newRow]
  | buildSlice t n ps f hk =>
    refine fin _ ?_
    unfold buildSliceK at hk
    split at hk
    · rename_i el hel
      split at hk
      · rename_i z m hz
        obtain ⟨hb, hk⟩ := bif_no hk (by simp)
        cases hk
        obtain ⟨cs, hcs, hf⟩ := orec_some hf
        cases hf
        have hu : P.underlying t = some (.slice el) := by
          unfold elem? at hel
          split at hel
          · cases hel; assumption
          · cases hel
        obtain ⟨zv, h1, h2, h3, h4, h5, h6⟩ := zero_run (val := val) (ρ := ρ) hz w
        have hb : n * (m + 1) ≤ 16777216 := Nat.le_of_ble_eq_true hb
        have hparts : (ps.map fun (i, x) => (i, e x)).toList = ps.toList.map fun p => (p.1, e p.2) := by simp
        have hV2 : Vs val ρ as ((ps.toList.map fun p => (p.1, e p.2)).map (·.2)) := by
          simp only [opnds, List.map_map] at ha ⊢
          exact ha
        have hz0 : Vs val ρ (rep z.cells n) ((Array.range (n * (m + 1))).map (zv.cells[· % zv.cells.size]!)).toList := rep_Vs h6 n _ (by rw [h3])
        obtain ⟨cells, k1, k2⟩ := fill_sound hval (fun i => some (i * (m + 1), m + 1)) (ps.toList.map fun p => (p.1, e p.2)) _ as _ cs _ (by simp [List.map_map]) hV2 hz0 hcs
        have hlen : cells.size = n * (m + 1) := by
          have h1 := Vs_len k2
          have h2 := fill_len hcs
          rw [rep_len, h4] at h2
          simp only [Array.length_toList] at h1
          rw [h1, h2]
        have hrange : n * (m + 1) = 0 → ((Array.range (n * (m + 1))).map ((#[] : Array Value)[· % (#[] : Array Value).size]!)) = (Array.range (n * (m + 1))).map (zv.cells[· % zv.cells.size]!) := by
          intro h0
          rw [h0]; simp
        refine ⟨.slice (some ⟨w.heap.size, 0, none⟩) n n, _, ⟨w.heap.size, 0, cells.size, false⟩, ?_, grew_push w (.cells cells el), rfl, V_slc.2 ⟨_, _, n, upd_self _ _ _, rfl, Nat.le_refl _, fun k hk => by cases hk; rfl, .inr ⟨rfl, ?_⟩⟩, obr_push hid k2⟩
        · have hgt : ¬ (n * (m + 1) > 2 ^ 24) := by omega
          unfold Instr.buildSlice
          simp only [Sem.run_bind, und_run hu, Result.andThen_ok, h2, hgt, if_false]
          by_cases h0 : n * (m + 1) = 0
          · rw [← hrange h0] at k1
            simp only [h0, if_true, hparts] at k1 ⊢
            simp only [Sem.run_bind, Sem.run_pure, Result.andThen_ok, k1]
            simp [newRow]
          · simp only [h0, if_false, hparts]
            simp only [Sem.run_bind, h1, Result.andThen_ok, Sem.run_pure, k1]
            simp [newRow]
        · simp; omega
      · cases hk
    · cases hk
  | makeSlice t l c f hk =>
    refine fin _ ?_
    unfold makeSliceK at hk
    split at hk
    · rename_i el hel
      split at hk
      · rename_i z m hz
        obtain ⟨hb, hk⟩ := bif_no hk (by simp)
        cases hk
        obtain ⟨q, hq, hf⟩ := orec_some hf
        obtain ⟨ln, hln, hf⟩ := orec_some hf
        obtain ⟨cn, hcn, hf⟩ := orec_some hf
        obtain ⟨hle, hf⟩ := brec_true hf
        obtain ⟨hlt, hf⟩ := brec_true hf
        cases hf
        have hle := Nat.le_of_ble_eq_true hle
        have hlt : cn < 1048576 := by simpa [Nat.blt_eq] using hlt
        have hu : P.underlying t = some (.slice el) := by
          unfold elem? at hel
          split at hel
          · cases hel; assumption
          · cases hel
        have hq2 : as = [q.1, q.2] := by
          cases as with
          | nil => cases hq
          | cons a as => cases as with
            | nil => cases hq
            | cons b as => cases as with
              | nil => cases hq; rfl
              | cons c as => cases hq
        subst hq2
        simp [opnds, Op.operands] at ha
        obtain ⟨_, _, h1, hV1, h2⟩ := Vs_cons_iff.1 ha
        cases h1
        obtain ⟨_, _, h1, hV2, _⟩ := Vs_cons_iff.1 h2
        cases h1
        obtain ⟨k1, e1⟩ := asNat_V hln hV1
        obtain ⟨k2, e2⟩ := asNat_V hcn hV2
        obtain ⟨zv, h1, h2, h3, h4, h5, h6⟩ := zero_run (val := val) (ρ := ρ) hz w
        obtain ⟨info, zv', hinfo, _⟩ := zero_spec (val := val) (ρ := ρ) hz
        have hbytes : info.bytes ≤ 65536 := by
          unfold small at hb
          rw [hinfo] at hb
          exact Nat.le_of_ble_eq_true hb
        have hti : (typeInfo el).run P w = .ok info w := by simp [typeInfo, hinfo]
        have hz0 : Vs val ρ (rep z.cells cn) ((Array.range (cn * (m + 1))).map (zv.cells[· % zv.cells.size]!)).toList := rep_Vs h6 cn _ (by rw [h3])
        have hwl : IntKind.i64.wrap (ln : Int) = ln := IntWalk.i64_in _ (by omega)
        have hwc : IntKind.i64.wrap (cn : Int) = cn := IntWalk.i64_in _ (by omega)
        have hsz : ((Array.range (cn * (m + 1))).map (zv.cells[· % zv.cells.size]!)).size = cn * (m + 1) := by simp
        have hmul : ((info.bytes : Int) * (cn : Int)) ≤ 68719476736 := by
          have h0 : info.bytes * cn ≤ 65536 * 1048576 := Nat.mul_le_mul hbytes (by omega)
          rw [← Int.natCast_mul]
          omega
        have hcond : (decide ((cn : Int) < 0) || decide ((info.bytes : Int) * (cn : Int) > 2 ^ 48) || decide ((ln : Int) < 0) || decide ((ln : Int) > (cn : Int))) = false := by
          rw [decide_eq_false (by omega), decide_eq_false (by omega), decide_eq_false (by omega), decide_eq_false (by omega)]; rfl
        have hai : ∀ (k : IntKind) (n : Int), (Go.asInt (.int k n)).run P w = .ok n w := fun k n => rfl
        refine ⟨.slice (some ⟨w.heap.size, 0, none⟩) ln cn, _, ⟨w.heap.size, 0, _, false⟩, ?_, grew_push w (.cells ((Array.range (cn * (m + 1))).map (zv.cells[· % zv.cells.size]!)) el), rfl, V_slc.2 ⟨_, _, cn, upd_self _ _ _, rfl, hle, fun k hk => by cases hk; rfl, .inr ⟨rfl, ?_⟩⟩, obr_push hid hz0⟩
        · unfold Instr.makeSlice
          simp only [Sem.run_bind, und_run hu, Result.andThen_ok, e1, e2]
          rw [hai]
          simp only [Result.andThen_ok]
          rw [hai]
          simp only [Result.andThen_ok]
          rw [hti]
          simp only [Result.andThen_ok]
          rw [hwl, hwc, hcond]
          simp only [Bool.false_eq_true, if_false, Sem.run_bind, run_askRoom, Result.andThen_ok, Int.toNat_natCast, h2]
          by_cases h0 : cn * (m + 1) = 0
          · rw [if_pos h0]
            have hr : ((Array.range (cn * (m + 1))).map ((#[] : Array Value)[· % (#[] : Array Value).size]!)) = (Array.range (cn * (m + 1))).map (zv.cells[· % zv.cells.size]!) := by rw [h0]; simp
            rw [← hr]
            simp [newRow]
          · rw [if_neg h0]
            simp [newRow, h1]
        · simp
      · cases hk
    · cases hk
  | convA s d x f hk =>
    refine fin _ ?_
    unfold convertK at hk
    split at hk
    · cases hk
    · cases hk
    · have hk := (bif_no hk (by simp)).2; cases hk
    · rename_i el hs hd
      obtain ⟨hbe, hk⟩ := bif_no hk (by simp)
      cases hk
      have hel : P.underlying el = some (.int .u8) := by
        unfold byteElem at hbe
        split at hbe
        · assumption
        · cases hbe
      obtain ⟨v, hv, hf⟩ := orec_some hf
      obtain ⟨p, hp, hf⟩ := orec_some hf
      cases hf
      simp only [opnds, Op.operands] at ha
      obtain ⟨u, r, hu, hV, hVs⟩ := Vs_cons_iff.1 (show Vs val ρ (v :: []) [e x] by
        cases as with
        | nil => cases hv
        | cons a as => cases as with
          | nil => cases hv; simpa using ha
          | cons b as => cases hv)
      cases hu
      rw [asStr_some] at hp
      subst hp
      obtain ⟨str, hx, e1, e2⟩ := V_str.1 hV
      have hsz : str.size = p.2 := by rw [← e1]; simp
      have hge := grownCap_ge w str.size 0 el
      have hbs : (bytesRow str (grownCap w str.size 0 el)).size = grownCap w str.size 0 el := by
        simp [bytesRow]; omega
      refine ⟨_, _, ⟨w.heap.size, 0, (bytesRow str (grownCap w str.size 0 el)).size, false⟩, by rw [hx]; exact run_bytes_of_string w s d el str hs hd hel, ?_, rfl, V_slc.2 ⟨_, _, _, upd_self _ _ _, by rw [← hsz], by rw [← hsz]; exact hge, (fun k hk => by cases hk), .inr ⟨rfl, ?_⟩⟩, ?_⟩
      · exact (grew_alloc w.drew _).drew
      · simp [hbs]
      · refine obr_new (w := w) hid (c := bytesRow str (grownCap w str.size 0 el)) (el := el) (f := (_, _)) (alloc_last w.drew _) ?_ (.inl (Nat.le_refl _)) ?_
        · rw [hbs, ← e1, ← e2, toBytes_eq]; simp; omega
        · intro i a hi
          rw [← e1, ← e2, toBytes_eq] at hi
          simp at hi
          obtain ⟨b, hb, rfl⟩ := hi
          obtain ⟨hlt, hb⟩ := Array.getElem?_eq_some_iff.1 hb
          exact ⟨_, bytesRow_at str _ i hlt, by rw [hb]; exact V_int.2 rfl⟩
    · cases hk
  | makeMap t =>
    refine fin _ ?_
    cases hf
    refine ⟨.map (some w.heap.size), _, ⟨w.heap.size, 0, 0, false⟩, ?_, grew_push w (.map #[] 0), rfl, V_map.2 ⟨_, upd_self _ _ _, rfl⟩, ⟨rfl, #[], ?_, rfl⟩⟩
    · simp [Instr.makeMap]
    · simp
end
end Go.Ev
