/- The table that a law's program reads; numbers that came in. -/
import Derived.Test.YtilmbaeedbfldaaGreatDoorEv2
import Derived.OpenShut
import Derived.ChangeArms
import Derived.FnData
import Derived.MakeChecks
set_option linter.unusedVariables false
set_option linter.unusedSimpArgs false
set_option linter.unusedSectionVars false
namespace Go.Ev

variable {P : Program} {val : Nat → Value} {ρ : Rho}

theorem laid_mem {w : World} : ∀ {l : List (String × DataW Unit)} {ps : List MemPlace}, DataW.LaidVars P w l ps → ∀ x ∈ l, ∃ g t cs fuel p, P.globalNamed x.1 = some g ∧ (P.globals[g]?).map (·.type) = some t ∧ w.var? P x.1 = some cs ∧
    DataW.trod (fun _ => ()) P w 0 (fun _ => true) false fuel t cs.toList = some (x.2, p)
  | [], _, _, x, hx => by simp at hx
  | y :: l, ps, h, x, hx => by
    obtain ⟨g, t, cs, fuel, p, q, h1, h2, h3, h4, h5, _⟩ := h
    rcases List.mem_cons.1 hx with rfl | hx
    · exact ⟨g, t, cs, fuel, p, h1, h2, h3, h4⟩
    · exact laid_mem h5 x hx
/-- a table of bytes -/
theorem laid_bytes {w : World} {l : List (String × DataW Unit)} {n : String} {ns : List Int} {g len : Nat} {t e : TypeId} (hp : (l.filter fun x => x.2.handleName?.isSome) = []) (h : laidMetH P l w) (hm : (n, DataW.agg (ns.map fun k => .lit (.int .u8 k))) ∈ l)
    (hg : P.globalNamed n = some g) (ht : (P.globals[g]?).map (·.type) = some t) (hu : P.underlying t = some (.array len e)) (he : P.underlying e = some (.int .u8)) (hc : P.cellsOf e = 1) (hc2 : P.cellsOf t = len) :
    ∃ c ty f, w.heap[g]? = some (.cells c ty f) ∧ c.toList = ns.map (Value.int .u8) := by
  have h : laidMet P l w := by
    unfold laidMetH at h
    rw [hp] at h
    exact h
  obtain ⟨ps, hl, _, _⟩ := h
  obtain ⟨g', t', cs, fuel, p, h1, h2, h3, h4⟩ := laid_mem hl _ hm
  rw [hg] at h1
  cases h1
  rw [ht] at h2
  cases h2
  simp only [World.var?, hg, Option.bind_some] at h3
  split at h3
  · rename_i cs' ty f hh
    cases h3
    refine ⟨cs, ty, f, hh, ?_⟩
    obtain ⟨xs, m, _, hx, hlen, hn, hel⟩ := DataW.trod_array hu h4
    injection hx with hx1 _
    injection hx1 with hx1
    have hxl : ns.length = xs.length := by
      have := congrArg List.length hx1
      simpa using this
    have hlen' : cs.toList.length = len := by rw [hlen, hc2]
    apply List.ext_getElem?
    intro i
    rw [List.getElem?_map]
    by_cases hi : i < len
    · have h5 := hel i hi
      rw [hc, Nat.mul_one] at h5
      obtain ⟨x, hxi⟩ : ∃ x, xs[i]? = some x := ⟨xs[i]'(by omega), by simp [show i < xs.length by omega]⟩
      rw [hxi] at h5
      obtain ⟨k, e1, e2, _⟩ := DataW.trod_int he h5
      have h6 : (ns.map fun k => (DataW.lit (.int .u8 k) : DataW Unit))[i]? = some x.1 := by rw [hx1]; simp [hxi]
      rw [List.getElem?_map] at h6
      cases hni : ns[i]? with
      | none => rw [hni] at h6; cases h6
      | some k' =>
        rw [hni] at h6
        simp only [Option.map_some, Option.some.injEq] at h6
        rw [e2] at h6
        cases h6
        have h7 : ((cs.toList.drop i).take 1)[0]? = some (Value.int .u8 k) := by rw [e1]; rfl
        rw [List.getElem?_take, if_pos (by omega), List.getElem?_drop] at h7
        simpa using h7
    · rw [List.getElem?_eq_none (by omega), List.getElem?_eq_none (by omega)]
      rfl
  · cases h3
def byteTab (ns : List Int) : List AV := ns.map fun n => .int .u8 n
theorem start_R {w : World} {ns : List Int} {g n : Nat} {c : Array Value} {ty : TypeId} {f : Nat × Nat} (hg : g < P.globals.size) (hn : P.globals.size ≤ n) (hw : w.heap[g]? = some (.cells c ty f)) (hc : c.toList = ns.map (Value.int .u8)) :
    R val (rho0 P fun _ => c.size) (hp0 g n (byteTab ns)).get (hp0 g n (byteTab ns)).next w := by
  have hsz : c.size = ns.length := by
    have := congrArg List.length hc
    simpa using this
  refine hp0_R hg hn hw (by rw [hsz]; simp [byteTab]) fun i a hi => ?_
  unfold byteTab at hi
  rw [List.getElem?_map] at hi
  cases hni : ns[i]? with
  | none => rw [hni] at hi; cases hi
  | some k =>
    rw [hni] at hi
    cases hi
    have : c.toList[i]? = some (.int .u8 k) := by rw [hc, List.getElem?_map, hni]; rfl
    exact ⟨_, by simpa using this, by rw [V_int]⟩
theorem hp0_ro {g n : Nat} {cs : List AV} : ∀ r o, (hp0 g n cs).get r = some o → ∃ cs, o = .row true cs := fun _ _ h => ⟨cs, (hp0_get h).2⟩

/-! Numbers that came in. -/
def valOf (ns : List (IntKind × Int)) (i : Nat) : Value := match ns[i]? with | some p => .int p.1 p.2 | none => .bool false
theorem valOf_one (ns : List (IntKind × Int)) (i : Nat) : (valOf ns i).oneCell' = true := by
  unfold valOf
  split <;> rfl
def conc (ns : List (IntKind × Int)) (x : AV) : AV := match x with | .opq i => (match ns[i]? with | some p => .int p.1 p.2 | none => .opq i) | x => x
theorem V_conc {ns : List (IntKind × Int)} {a : AV} {v : Value} : V (valOf ns) ρ (conc ns a) v ↔ V (valOf ns) ρ a v := by
  unfold conc
  cases a with
  | opq i =>
    simp only
    cases h : ns[i]? with
    | none => simp
    | some p =>
      simp only
      rw [V_int]
      have : valOf ns i = .int p.1 p.2 := by simp [valOf, h]
      simp [V, this]
  | _ => simp
/-- operations by number: those of whole numbers -/
def no1 (f : Fn1) : Nat := match f with | .neg => 1 | .cpl => 2 | .cint k => 3 + kNo k | _ => 0
def no2 (f : Fn2) : Nat := match f with
  | .add => 1 | .sub => 2 | .mul => 3 | .quo => 4 | .rem => 5 | .eql .num => 6 | .neq .num => 7 | .lss => 8 | .leq => 9 | .gtr => 10 | .geq => 11 | .and => 12 | .or => 13 | .xor => 14 | .shl => 15 | .shr => 16 | _ => 0
def fn1 (n : Nat) : Fn1 := match n with | 1 => .neg | 2 => .cpl | 3 => .cint .i8 | 4 => .cint .i16 | 5 => .cint .i32 | 6 => .cint .i64 | 7 => .cint .u8 | 8 => .cint .u16 | 9 => .cint .u32 | _ => .cint .u64
def fn2 (n : Nat) : Fn2 := match n with
  | 1 => .add | 2 => .sub | 3 => .mul | 4 => .quo | 5 => .rem | 6 => .eql .num | 7 => .neq .num | 8 => .lss | 9 => .leq | 10 => .gtr | 11 => .geq | 12 => .and | 13 => .or | 14 => .xor | 15 => .shl | _ => .shr
theorem fn1_no {f : Fn1} (h : no1 f ≠ 0) : fn1 (no1 f) = f := by
  cases f with
  | cint k => cases k <;> rfl
  | neg => rfl
  | cpl => rfl
  | _ => exact absurd rfl h
theorem fn2_no {f : Fn2} (h : no2 f ≠ 0) : fn2 (no2 f) = f := by
  cases f with
  | eql e => cases e <;> first | rfl | exact absurd rfl h
  | neq e => cases e <;> first | rfl | exact absurd rfl h
  | _ => first | rfl | exact absurd rfl h
structure T1 where
  f : Nat
  a : AV
  v : AV
structure T2 where
  f : Nat
  a : AV
  b : AV
  v : AV
noncomputable def look1 (l : List T1) (n : Nat) (a : AV) : Option AV := List.rec none (fun t _ ih => Bool.rec ih (Bool.rec ih (some t.v) (oneEq t.a a)) (Nat.beq t.f n)) l
noncomputable def look2 (l : List T2) (n : Nat) (a b : AV) : Option AV := List.rec none (fun t _ ih => Bool.rec ih (Bool.rec ih (Bool.rec ih (some t.v) (oneEq t.b b)) (oneEq t.a a)) (Nat.beq t.f n)) l
noncomputable def gamOf (l1 : List T1) (l2 : List T2) : Gam := ⟨fun f a => Bool.rec (look1 l1 (no1 f) a) none (Nat.beq (no1 f) 0), fun f a b => Bool.rec (look2 l2 (no2 f) a b) none (Nat.beq (no2 f) 0)⟩
theorem look1_some {l : List T1} {n : Nat} {a v : AV} (h : look1 l n a = some v) : ∃ t ∈ l, t.f = n ∧ t.a = a ∧ t.v = v := by
  induction l with
  | nil => cases h
  | cons t l ih =>
    have h : (Bool.rec (look1 l n a) (Bool.rec (look1 l n a) (some t.v) (oneEq t.a a)) (Nat.beq t.f n) : Option AV) = some v := h
    cases hf : Nat.beq t.f n with
    | false => rw [hf] at h; obtain ⟨t', h1, h2⟩ := ih h; exact ⟨t', by simp [h1], h2⟩
    | true =>
      rw [hf] at h
      cases ha : oneEq t.a a with
      | false => simp only [ha] at h; obtain ⟨t', h1, h2⟩ := ih h; exact ⟨t', by simp [h1], h2⟩
      | true => simp only [ha] at h; cases h; exact ⟨t, by simp, Nat.eq_of_beq_eq_true hf, oneEq_eq ha, rfl⟩
theorem look2_some {l : List T2} {n : Nat} {a b v : AV} (h : look2 l n a b = some v) : ∃ t ∈ l, t.f = n ∧ t.a = a ∧ t.b = b ∧ t.v = v := by
  induction l with
  | nil => cases h
  | cons t l ih =>
    have h : (Bool.rec (look2 l n a b) (Bool.rec (look2 l n a b) (Bool.rec (look2 l n a b) (some t.v) (oneEq t.b b)) (oneEq t.a a)) (Nat.beq t.f n) : Option AV) = some v := h
    cases hf : Nat.beq t.f n with
    | false => rw [hf] at h; obtain ⟨t', h1, h2⟩ := ih h; exact ⟨t', by simp [h1], h2⟩
    | true =>
      rw [hf] at h
      cases ha : oneEq t.a a with
      | false => simp only [ha] at h; obtain ⟨t', h1, h2⟩ := ih h; exact ⟨t', by simp [h1], h2⟩
      | true =>
        simp only [ha] at h
        cases hb : oneEq t.b b with
        | false => simp only [hb] at h; obtain ⟨t', h1, h2⟩ := ih h; exact ⟨t', by simp [h1], h2⟩
        | true => simp only [hb] at h; cases h; exact ⟨t, by simp, Nat.eq_of_beq_eq_true hf, oneEq_eq ha, oneEq_eq hb, rfl⟩
/-- each row of the tables is so of the numbers themselves. -/
def Right1 (ns : List (IntKind × Int)) (l : List T1) : Prop := ∀ t ∈ l, k1 (fn1 t.f) (conc ns t.a) = some (conc ns t.v)
def Right2 (ns : List (IntKind × Int)) (l : List T2) : Prop := ∀ t ∈ l, k2 (fn2 t.f) (conc ns t.a) (conc ns t.b) = some (conc ns t.v)
theorem gamOf_ok {ns : List (IntKind × Int)} {l1 : List T1} {l2 : List T2} (h1 : Right1 ns l1) (h2 : Right2 ns l2) : GamOk P (valOf ns) (gamOf l1 l2) := by
  constructor
  · intro f a v h ρ o e x w hK hO ha
    have h : (Bool.rec (look1 l1 (no1 f) a) none (Nat.beq (no1 f) 0) : Option AV) = some v := h
    cases hn : Nat.beq (no1 f) 0 with
    | true => rw [hn] at h; cases h
    | false =>
      rw [hn] at h
      obtain ⟨t, ht, e1, e2, e3⟩ := look1_some h
      have := h1 t ht
      rw [e1, e2, e3, fn1_no (fun k => by rw [k] at hn; cases hn)] at this
      obtain ⟨u, hu, hV⟩ := p1_sound (val := valOf ns) (ρ := ρ) (e := e) (w := w) hK hO (V_conc.2 ha) this
      exact ⟨u, hu, V_conc.1 hV⟩
  · intro f a b v h ρ o e x y w hK hO ha hb hc
    have h : (Bool.rec (look2 l2 (no2 f) a b) none (Nat.beq (no2 f) 0) : Option AV) = some v := h
    cases hn : Nat.beq (no2 f) 0 with
    | true => rw [hn] at h; cases h
    | false =>
      rw [hn] at h
      obtain ⟨t, ht, e1, e2, e3, e4⟩ := look2_some h
      have := h2 t ht
      rw [e1, e2, e3, e4, fn2_no (fun k => by rw [k] at hn; cases hn)] at this
      obtain ⟨u, hu, hV⟩ := p2_sound (val := valOf ns) (ρ := ρ) (e := e) (w := w) hK hO (V_conc.2 ha) (V_conc.2 hb) hc this
      exact ⟨u, hu, V_conc.1 hV⟩
end Go.Ev
