/- Operations that only compute, and that only read: what the interpreter tells is what the model tells. -/
import Derived.Test.YtgchblfkmgnaeaaGreatDoorEvC
import GoSem.Dispatch
import Derived.Laws.Small
import Derived.Laws.Entries
import Derived.Laws.Cells
set_option linter.unusedVariables false
set_option linter.unusedSimpArgs false
set_option linter.unusedSectionVars false
namespace Go.Ev

variable {P : Program} {val : Nat → Value} {ρ : Rho}

theorem sz_run {t : TypeId} {n : Nat} (h : sz? P t = some n) (w : World) : (sizeOf t).run P w = .ok n w := by
  unfold sz? at h
  cases hi : P.info? t with
  | none => simp [hi] at h
  | some i => simp [hi] at h; simp [sizeOf, typeInfo, hi, h]
theorem und_run {t : TypeId} {d : TypeDesc} (h : P.underlying t = some d) (w : World) : (underlying t).run P w = .ok d w := by
  simp [underlying, h]
theorem agg_run {t : TypeId} {b : Bool} (h : isAgg? P t = some b) (w : World) : (isAgg t).run P w = .ok b w := by
  unfold isAgg? at h
  unfold isAgg
  cases hu : P.underlying t with
  | none => simp [hu] at h
  | some d => rw [hu] at h; simp [und_run hu]; cases d <;> simp at h ⊢ <;> exact h
theorem pt_spec {t : TypeId} {b : Bool} {n : Nat} (h : pt? P t = some (b, n)) : isAgg? P t = some b ∧ sz? P t = some n := by
  unfold pt? at h
  split at h
  · cases h; exact ⟨‹_›, ‹_›⟩
  · cases h

theorem oneOf_spec {v : Value} {z : AV} (h : oneOf v = some z) : V val ρ z v ∧ z.one = true ∧ v.cells = #[v] := by
  cases v <;> simp only [oneOf, reduceCtorEq] at h
  case bool b => cases h; exact ⟨by simp [V], rfl, rfl⟩
  case int k n => cases h; exact ⟨by simp [V], rfl, rfl⟩
  case string s => cases h; exact ⟨by simp only [V, strOf]; exact ⟨s, rfl, rfl, rfl⟩, rfl, rfl⟩
  case pointer a => cases a <;> simp at h; subst h; exact ⟨by simp [V, nulV], rfl, rfl⟩
  case slice a l c =>
    cases a with
    | some a => simp at h
    | none => cases l <;> cases c <;> simp at h; subst h; exact ⟨by simp [V, nulV], rfl, rfl⟩
  case map r => cases r <;> simp at h; subst h; exact ⟨by simp [V, nulV], rfl, rfl⟩
  case nilFunc => cases h; exact ⟨by simp [V, nulV], rfl, rfl⟩
  case nilIface => cases h; exact ⟨by simp [V, nulV], rfl, rfl⟩
theorem flatOf_spec : ∀ {l : List Value} {z : List AV}, flatOf l = some z → Vs val ρ z l
  | [], z, h => by have e : flatOf [] = some [] := rfl; rw [e] at h; cases h; exact Vs_nil
  | v :: l, z, h => by
    have e : flatOf (v :: l) = Option.rec none (fun a => Option.rec none (fun r => some (a :: r)) (flatOf l)) (oneOf v) := rfl
    rw [e] at h
    cases hv : oneOf v with
    | none => simp [hv] at h
    | some a =>
      cases hl : flatOf l with
      | none => simp [hv, hl] at h
      | some r => simp [hv, hl] at h; subst h; exact Vs_cons (oneOf_spec hv).1 (flatOf_spec hl)
theorem ofValue_spec {v : Value} {z : AV} (h : ofValue v = some z) : V val ρ z v ∧ Vs val ρ z.cells v.cells.toList := by
  unfold ofValue at h
  split at h
  · rename_i l
    cases hl : flatOf l with
    | none => simp [hl] at h
    | some r =>
      simp [hl] at h
      subst h
      have := flatOf_spec (val := val) (ρ := ρ) hl
      exact ⟨by simp only [V]; exact ⟨_, rfl, this⟩, this⟩
  · cases h; exact ⟨by simp only [V]; exact ⟨_, rfl, Vs_nil⟩, by show Vs val ρ [.tup []] [Value.tuple #[]]; exact Vs_cons (by simp only [V]; exact ⟨_, rfl, Vs_nil⟩) Vs_nil⟩
  · have := oneOf_spec (val := val) (ρ := ρ) h
    refine ⟨this.1, ?_⟩
    rw [this.2.2, cells_else (by rintro l rfl; simp [AV.one] at this)]
    exact Vs_cons this.1 Vs_nil
theorem V_cells {a : AV} {v : Value} (h : V val ρ a v) (hval : ∀ i l, val i ≠ .agg l) : Vs val ρ a.cells v.cells.toList := by
  cases a with
  | agg l => simp only [V] at h; obtain ⟨x, rfl, hs⟩ := h; exact hs
  | _ =>
    rw [cells_else (by intro l; simp)]
    have : v.cells = #[v] := by
      simp only [V] at h
      first
        | (subst h; rfl)
        | (obtain ⟨_, _, _, _, rfl, _⟩ := h; rfl)
        | (obtain ⟨_, _, rfl, _⟩ := h; rfl)
        | (obtain ⟨_, _, rfl⟩ := h; rfl)
        | (obtain ⟨_, rfl, _⟩ := h; rfl)
        | (obtain ⟨_, rfl⟩ := h; rfl)
        | (obtain ⟨hk, rfl⟩ := h; rename_i k; match k, hk with | 0, _ => rfl | 1, _ => rfl | 2, _ => rfl | 3, _ => rfl | 4, _ => rfl)
        | (subst h; cases hv : val _ <;> first | rfl | exact absurd hv (hval _ _))
    rw [this]
    exact Vs_cons h Vs_nil
theorem zero_spec {t : TypeId} {z : AV} {n : Nat} (h : zero? P t = some (z, n)) :
    ∃ i v, P.info? t = some i ∧ i.zero = some v ∧ i.size = n ∧ z.cells.length = n ∧ v.cells.size = n ∧ V val ρ z v ∧ Vs val ρ z.cells v.cells.toList := by
  unfold zero? at h
  cases hi : P.info? t with
  | none => simp [hi] at h
  | some i =>
    simp only [hi] at h
    cases hz : i.zero with
    | none => simp [hz] at h
    | some v =>
      simp only [hz] at h
      cases ho : ofValue v with
      | none => simp [ho] at h
      | some z' =>
        simp only [ho] at h
        cases hb : (Nat.beq (lenL z'.cells) i.size && Nat.beq v.cells.size i.size) with
        | false => simp [hb] at h
        | true =>
          simp [hb] at h
          obtain ⟨rfl, rfl⟩ := h
          simp only [Bool.and_eq_true] at hb
          have h1 := Nat.eq_of_beq_eq_true hb.1
          have h2 := Nat.eq_of_beq_eq_true hb.2
          rw [lenL_eq] at h1
          exact ⟨i, v, rfl, hz, rfl, h1, h2, ofValue_spec ho⟩
theorem zero_run {t : TypeId} {z : AV} {n : Nat} (h : zero? P t = some (z, n)) (w : World) :
    ∃ v, (zeroValue t).run P w = .ok v w ∧ (sizeOf t).run P w = .ok n w ∧ v.cells.size = n ∧ z.cells.length = n ∧ V val ρ z v ∧ Vs val ρ z.cells v.cells.toList := by
  obtain ⟨i, v, hi, hz, hn, h1, h2, h3, h4⟩ := zero_spec (val := val) (ρ := ρ) h
  refine ⟨v, ?_, ?_, h2, h1, h3, h4⟩
  · simp [zeroValue, typeInfo, hi, hz]
  · simp [sizeOf, typeInfo, hi, hn]

/-! The words that tell by 'Option.rec'. -/
theorem orec_some {α β : Type} {x : Option α} {f : α → Option β} {v : β} (h : (Option.rec none f x : Option β) = some v) : ∃ a, x = some a ∧ f a = some v := by
  cases x with
  | none => cases h
  | some a => exact ⟨a, rfl, h⟩
theorem brec_true {β : Type} {b : Bool} {x : Option β} {v : β} (h : (Bool.rec none x b : Option β) = some v) : b = true ∧ x = some v := by
  cases b with
  | false => cases h
  | true => exact ⟨rfl, h⟩
theorem brec_none {β : Type} {b : Bool} {x : Option β} {v : β} (h : (Bool.rec x none b : Option β) = some v) : b = false ∧ x = some v := by
  cases b with
  | false => exact ⟨rfl, h⟩
  | true => cases h
theorem orec_or {α β : Type} {x : Option α} {f : α → Option β} {d : Option β} {v : β} (h : (Option.rec d f x : Option β) = some v) : (x = none ∧ d = some v) ∨ ∃ a, x = some a ∧ f a = some v := by
  cases x with
  | none => exact .inl ⟨rfl, h⟩
  | some a => exact .inr ⟨a, rfl, h⟩

/-! One operand. -/
theorem part_run {t : TypeId} {b : Bool} {n off : Nat} {cs : List AV} {a : Array Value} {v : AV} (ht : pt? P t = some (b, n)) (hs : Vs val ρ cs a.toList) (h : partA b n cs off = some v) (w : World) :
    ∃ u, (part t a off).run P w = .ok u w ∧ V val ρ v u := by
  obtain ⟨h1, h2⟩ := pt_spec ht
  unfold part
  cases b with
  | true =>
    have h : aggO (cut cs off n) = some v := h
    obtain ⟨l, hl, hv⟩ := orec_some h
    cases hv
    refine ⟨.agg (a.extract off (off + n)), by simp [agg_run h1, sz_run h2], ?_⟩
    simp only [V]
    refine ⟨_, rfl, ?_⟩
    obtain ⟨hlen, hget⟩ := cut_get hl
    have hsz := Vs_len hs
    simp at hsz
    obtain ⟨hb, _⟩ := cut_some hl
    refine Vs_of_get ?_ fun i x hi => ?_
    · simp [hlen]; omega
    · have hi' : i < n := by rw [← hlen]; exact (List.getElem?_eq_some_iff.1 hi).1
      rw [hget i hi'] at hi
      obtain ⟨u, hu, hV⟩ := Vs_get hs hi
      refine ⟨u, ?_, hV⟩
      simp
      simp at hu
      rw [Array.getElem?_eq_some_iff] at hu
      obtain ⟨hlt, hu⟩ := hu
      simp [hi', Array.getElem?_eq_getElem hlt, hu]
  | false =>
    have h : nth cs off = some v := h
    rw [nth_eq] at h
    obtain ⟨u, hu, hV⟩ := Vs_get hs h
    simp at hu
    exact ⟨u, by simp [agg_run h1, hu], hV⟩

theorem V_int {k : IntKind} {n : Int} {v : Value} : V val ρ (.int k n) v ↔ v = .int k n := by simp [V]
theorem V_bool {b : Bool} {v : Value} : V val ρ (.bool b) v ↔ v = .bool b := by simp [V]
theorem V_tup {l : List AV} {v : Value} : V val ρ (.tup l) v ↔ ∃ a : Array Value, v = .tuple a ∧ Vs val ρ l a.toList := by simp [V]
theorem V_agg {l : List AV} {v : Value} : V val ρ (.agg l) v ↔ ∃ a : Array Value, v = .agg a ∧ Vs val ρ l a.toList := by simp [V]
theorem V_ptr {r : Id} {o : Nat} {v : Value} : V val ρ (.ptr r o) v ↔ ∃ L, ρ r = some L ∧ v = .pointer (some ⟨L.blk, L.sh + o, none⟩) := by simp [V]
theorem V_str {n l : Nat} {v : Value} : V val ρ (.str n l) v ↔ ∃ s : ByteArray, v = .string s ∧ s.data.toList.length = l ∧ enc s.data.toList = n := by simp [V]
theorem V_map {r : Id} {v : Value} : V val ρ (.map r) v ↔ ∃ L, ρ r = some L ∧ v = .map (some L.blk) := by simp [V]
theorem V_fn {f : Nat} {a c : List AV} {v : Value} : V val ρ (.fn f a c) v ↔ ∃ xs ys : Array Value, v = .func (.func f) xs ys ∧ Vs val ρ a xs.toList ∧ Vs val ρ c ys.toList := by simp [V]
theorem V_nul {k : Nat} {v : Value} : V val ρ (.nul k) v ↔ k < 5 ∧ v = nulV k := by simp [V]
theorem V_slc {r : Id} {off len sz : Nat} {cap : Option Nat} {v : Value} : V val ρ (.slc r off len sz cap) v ↔
    ∃ L a c, ρ r = some L ∧ v = .slice (some a) len c ∧ len ≤ c ∧ (∀ k, cap = some k → k = c) ∧ (c = 0 ∨ (a = ⟨L.blk, L.sh + off, none⟩ ∧ L.sh + off + c * sz ≤ L.size)) := by simp [V]
theorem V_iface {t : Nat} {x : AV} {v : Value} : V val ρ (.iface t x) v ↔ ∃ y, v = .iface t y ∧ V val ρ x y := by simp [V]
theorem V_num {n : Nat} : V val ρ (numI n) (goInt n) := by simp [numI, goInt, V]

theorem bif_no {b : Bool} {x k : Kd} (h : (bif b then x else Kd.no) = k) (hk : k ≠ .no) : b = true ∧ x = k := by
  cases b with
  | false => exact absurd h.symm hk
  | true => exact ⟨rfl, h⟩
theorem nulIs_some {k : Nat} {y : AV} {b : Bool} (h : nulIs k y = some b) : y = .nul k := by
  obtain ⟨j, hj, h⟩ := orec_some h
  obtain ⟨hb, _⟩ := brec_true h
  rw [Nat.eq_of_beq_eq_true hb, asNul_some.1 hj]

section
variable {e : Operand → Value} {o : Oper} {w : World} {dst : Option Tmp} {type : TypeId} {pos : String} {after : Array Edge} {guard : Option (Nat × Bool)}
/-- What an operation that tells a value comes to. -/
def Tells (val : Nat → Value) (ρ : Rho) (P : Program) (s : Sem Value) (w : World) (v : AV) : Prop := ∃ u, s.run P w = .ok u w ∧ V val ρ v u
theorem Tells.mk {s : Sem Value} {v : AV} (u : Value) (h : s.run P w = .ok u w) (hV : V val ρ v u) : Tells val ρ P s w v := ⟨u, h, hV⟩

theorem len_sound {t : TypeId} {ts : Array TypeId} {ty : TypeId} {f : Fn1} {x : Value} {a v : AV} (ht : ts[0]? = some t) (hK : lenK P t = .p1 f) (ha : V val ρ a x) (hf : k1 f a = some v) :
    Tells val ρ P (Builtin.len_ ts ty #[x]) w v := by
  unfold lenK at hK
  split at hK <;> try (simp only [reduceCtorEq] at hK)
  · rename_i hu
    cases hK
    obtain ⟨p, hp, hv⟩ := orec_some hf
    rw [asStr_some] at hp
    subst hp
    cases hv
    obtain ⟨s, rfl, hl, _⟩ := V_str.1 ha
    refine .mk (goInt s.size) ?_ ?_
    · simp [Builtin.len_, ht, und_run hu]
    · have : s.size = s.data.toList.length := by simp
      rw [this, hl]; exact V_num
  · rename_i hu
    cases hK
    rcases orec_or hf with ⟨_, hf⟩ | ⟨s, hs, hv⟩
    · obtain ⟨b, hb, hv⟩ := orec_some hf
      cases hv
      rw [nulIs_some hb] at ha
      obtain ⟨_, rfl⟩ := V_nul.1 ha
      exact .mk (goInt 0) (by simp [Builtin.len_, ht, und_run hu, nulV]) V_num
    · rw [asSlc_some] at hs
      subst hs
      cases hv
      obtain ⟨L, ad, c, _, rfl, _⟩ := V_slc.1 ha
      exact .mk _ (by simp [Builtin.len_, ht, und_run hu]) V_num
  · rename_i n _ hu
    cases hK
    cases hf
    exact .mk _ (by simp [Builtin.len_, ht, und_run hu]) V_num
  · rename_i b hu
    split at hK <;> try (simp only [reduceCtorEq] at hK)
    rename_i n _ hu'
    cases hK
    cases hf
    exact .mk _ (by simp [Builtin.len_, ht, und_run hu, und_run hu']) V_num

theorem low_eq (k : IntKind) (x : Int) : low k x = (BitVec.ofInt k.bits x).toNat := by
  cases x with
  | ofNat m =>
    show (Bool.rec (BitVec.ofInt k.bits (.ofNat m)).toNat m (Nat.blt m (half k)) : Nat) = _
    cases h : Nat.blt m (half k) with
    | false => rfl
    | true =>
      have h' : m < half k := by simpa [Nat.blt_eq] using h
      show m = _
      have hk : half k ≤ 2 ^ k.bits := by cases k <;> decide
      rw [BitVec.toNat_ofInt]
      show m = ((m : Int) % ((2 ^ k.bits : Nat) : Int)).toNat
      rw [← Int.natCast_emod, Int.toNat_natCast, Nat.mod_eq_of_lt (by omega)]
  | negSucc m => rfl
theorem bits_run (op : BinOp) (k : IntKind) (x y : Int) (w : World) (h : op = .and ∨ op = .or ∨ op = .xor) :
    (Op.intBits op k x y).run P w = .ok (.int k (wrap k (Int.ofNat (bitsN op (low k x) (low k y))))) w := by
  rw [wrap_eq, low_eq, low_eq]
  rcases h with rfl | rfl | rfl
  · simp [Op.intBits, bitsN]
  · simp [Op.intBits, bitsN]
  · simp [Op.intBits, bitsN]
theorem p1_sound {f : Fn1} {x : Operand} {a v : AV} (hK : opK P o.op = .p1 f) (hO : opnds o.op = [x]) (ha : V val ρ a (e x)) (hf : k1 f a = some v) :
    ∃ u, (execOp e o).run P w = .ok (.value u) w ∧ V val ρ v u := by
  obtain ⟨dst, op, type, pos, after, guard⟩ := o
  have fin : ∀ s : Sem Value, Tells val ρ P s w v → ∃ u, (do pure (Next.value (← s)) : Sem Next).run P w = .ok (.value u) w ∧ V val ρ v u := by
    rintro s ⟨u, h, hV⟩
    exact ⟨u, by simp [h], hV⟩
  cases op <;> simp only [opK, reduceCtorEq] at hK
  case move y => simp [opnds, Op.operands] at hO; subst hO; cases hK; cases hf; exact ⟨_, by simp [execOp], ha⟩
  case assign y => simp [opnds, Op.operands] at hO; subst hO; cases hK; cases hf; exact ⟨_, by simp [execOp], ha⟩
  case alloc t => split at hK <;> simp only [reduceCtorEq] at hK
  case build t ps => unfold buildK at hK; (repeat' split at hK) <;> simp only [reduceCtorEq] at hK
  case buildSlice t n ps => unfold buildSliceK at hK; split at hK <;> (try split at hK) <;> (try simp only [reduceCtorEq] at hK) <;> (have hK := (bif_no hK (by simp)).2; cases hK)
  case insert t m k v => split at hK <;> simp only [reduceCtorEq] at hK
  case load t y => split at hK <;> simp only [reduceCtorEq] at hK
  case store t y z => split at hK <;> simp only [reduceCtorEq] at hK
  case nilCheck y =>
    simp [opnds, Op.operands] at hO
    subst hO
    cases hK
    rcases orec_or hf with ⟨_, hf⟩ | ⟨p, hp, hv⟩
    · obtain ⟨p, hp, hv⟩ := orec_some hf
      cases hv
      rw [asFn_some] at hp
      have ha' := ha
      rw [hp] at ha'
      obtain ⟨xs, ys, h1, _⟩ := V_fn.1 ha'
      exact ⟨e y, by simp [execOp, h1], ha⟩
    · cases hv
      rw [asPtr_some] at hp
      have ha' := ha
      rw [hp] at ha'
      obtain ⟨L, _, h1⟩ := V_ptr.1 ha'
      exact ⟨e y, by simp [execOp, h1], ha⟩
  case binOp op t y z t' => unfold binK at hK; split at hK <;> (try split at hK) <;> simp only [reduceCtorEq] at hK
  case unOp op t y =>
    simp [opnds, Op.operands] at hO
    subst hO
    refine fin _ ?_
    unfold unK at hK
    split at hK <;> (try simp only [reduceCtorEq] at hK)
    · cases hK
      obtain ⟨b, hb, hv⟩ := orec_some hf
      cases hv
      rw [asBool_some.1 hb] at ha
      rw [V_bool.1 ha]
      exact .mk _ (by simp [Op.unary]; rfl) (by simp [V])
    · cases hK
      obtain ⟨p, hp, hv⟩ := orec_some hf
      cases hv
      rw [asInt_some.1 hp] at ha
      rw [V_int.1 ha]
      exact .mk (.int p.1 (p.1.wrap (0 - p.2))) (by simp [Op.unary, Op.intArith]) (by rw [wrap_eq]; exact V_int.2 rfl)
    · cases hK
      obtain ⟨p, hp, hv⟩ := orec_some hf
      cases hv
      rw [asInt_some.1 hp] at ha
      rw [V_int.1 ha]
      exact .mk _ (by simp only [Op.unary]; exact bits_run .xor p.1 _ p.2 w (.inr (.inr rfl))) (V_int.2 rfl)
  case convert s d y =>
    simp [opnds, Op.operands] at hO
    subst hO
    refine fin _ ?_
    unfold convertK at hK
    split at hK
    · rename_i k hs hd
      cases hK
      obtain ⟨p, hp, hv⟩ := orec_some hf
      cases hv
      rw [asInt_some.1 hp] at ha
      rw [V_int.1 ha]
      refine .mk (.int k (k.wrap p.2)) ?_ (by rw [wrap_eq]; simp [V])
      simp [convert, und_run hs, und_run hd, Conv.intToInt]
    · rename_i hs hd
      cases hK
      obtain ⟨p, hp, hv⟩ := orec_some hf
      cases hv
      have ha' := ha
      rw [asStr_some.1 hp] at ha'
      obtain ⟨b, hb, _⟩ := V_str.1 ha'
      rw [hb] at ha ⊢
      exact .mk _ (by simp [convert, und_run hs, und_run hd]) ha
    · have hK := (bif_no hK (by simp)).2; cases hK
    · have hK := (bif_no hK (by simp)).2; cases hK
    · cases hK
  case makeInterface t y =>
    simp [opnds, Op.operands] at hO
    subst hO
    refine fin _ ?_
    split at hK <;> (try simp only [reduceCtorEq] at hK)
    rename_i d hn hu
    cases hK
    cases hf
    refine .mk (.iface t (e y)) ?_ (V_iface.2 ⟨_, rfl, ha⟩)
    unfold Instr.makeInterface
    simp [und_run hu]
  case makeFunc fn a b => cases fn <;> simp only [reduceCtorEq] at hK
  case makeMap t r => cases r <;> simp only [reduceCtorEq] at hK
  case makeSlice t l c => unfold makeSliceK at hK; split at hK <;> (try split at hK) <;> (try simp only [reduceCtorEq] at hK) <;> (have hK := (bif_no hK (by simp)).2; cases hK)
  case slice t y lo hi mx => unfold sliceK at hK; (repeat' split at hK) <;> simp only [reduceCtorEq] at hK
  case fieldAddr t y i =>
    simp [opnds, Op.operands] at hO
    subst hO
    refine fin _ ?_
    unfold fieldAddrK at hK
    split at hK <;> try (simp only [reduceCtorEq] at hK)
    rename_i fs hu
    split at hK <;> try (simp only [reduceCtorEq] at hK)
    rename_i fd hfd
    split at hK <;> try (simp only [reduceCtorEq] at hK)
    rename_i m hm
    cases hK
    obtain ⟨p, hp, hv⟩ := orec_some hf
    cases hv
    rw [asPtr_some.1 hp] at ha
    obtain ⟨L, hL, hx⟩ := V_ptr.1 ha
    refine .mk (.pointer (some ⟨L.blk, L.sh + p.2 + fd.offset, none⟩)) ?_ (V_ptr.2 ⟨L, hL, by simp [Nat.add_assoc]⟩)
    simp [Instr.fieldAt, und_run hu, hfd, hx, Instr.sureAddr, fieldPlace, sz_run hm, Addr.add_lit]
  case field t y i =>
    simp [opnds, Op.operands] at hO
    subst hO
    refine fin _ ?_
    unfold fieldK at hK
    split at hK <;> try (simp only [reduceCtorEq] at hK)
    rename_i fs hu
    split at hK <;> try (simp only [reduceCtorEq] at hK)
    rename_i fd hfd
    split at hK <;> try (simp only [reduceCtorEq] at hK)
    rename_i b m hm
    cases hK
    obtain ⟨l, hl, hv⟩ := orec_some hf
    rw [asAgg_some.1 hl] at ha
    obtain ⟨xs, hx, hs⟩ := V_agg.1 ha
    obtain ⟨u, hu', hV⟩ := part_run hm hs hv w
    exact .mk u (by simp [Instr.field, und_run hu, hfd, hx, Go.asAgg, hu']) hV
  case indexAddr t y i => unfold indexAddrK at hK; (repeat' split at hK) <;> simp only [reduceCtorEq] at hK
  case index t y i => unfold indexK at hK; (repeat' split at hK) <;> simp only [reduceCtorEq] at hK
  case lookup t y i ok => (repeat' split at hK) <;> simp only [reduceCtorEq] at hK
  case mapUpdate t y i z => split at hK <;> simp only [reduceCtorEq] at hK
  case mapEntry t y i => (repeat' split at hK) <;> simp only [reduceCtorEq] at hK
  case range t y => split at hK <;> simp only [reduceCtorEq] at hK
  case next it s => cases s <;> simp only [reduceCtorEq] at hK
  case extract y i =>
    simp [opnds, Op.operands] at hO
    subst hO
    refine fin _ ?_
    cases hK
    obtain ⟨l, hl, hv⟩ := orec_some hf
    rw [asTup_some.1 hl] at ha
    obtain ⟨xs, hx, hs⟩ := V_tup.1 ha
    rw [nth_eq] at hv
    obtain ⟨u, hu, hV⟩ := Vs_get hs hv
    simp at hu
    exact .mk u (by simp [Instr.extract, hx, hu]) hV
  case call c =>
    obtain ⟨callee, args, argTypes⟩ := c
    cases callee <;> simp only [reduceCtorEq] at hK
    rename_i b
    unfold builtinK at hK
    split at hK
    · rename_i t ht
      simp only [opnds] at hO
      have hA : args = #[x] := by cases args; simp_all
      subst hA
      have ht' : argTypes[0]? = some t := by
        have : argTypes.toList[0]? = some t := by rw [ht]; rfl
        simpa using this
      refine fin (Builtin.len_ argTypes type #[e x]) ?_ |> fun ⟨u, h, hV⟩ => ⟨u, ?_, hV⟩
      · exact len_sound ht' hK ha hf
      · rw [← h]; simp [execOp, resolve, invoke, builtin]
    · unfold appK at hK; (repeat' split at hK) <;> (try simp only [reduceCtorEq] at hK) <;> (have hK := (bif_no hK (by simp)).2; cases hK)
    · cases hK
    · cases hK
    · split at hK <;> simp only [reduceCtorEq] at hK
    · (repeat' split at hK) <;> simp only [reduceCtorEq] at hK
    · cases hK
end
end Go.Ev
