/- What kinds of operation there are; those of two and three operands. -/
import Derived.Test.YtilmbaeedbfldaaGreatDoorEvF
set_option linter.unusedVariables false
set_option linter.unusedSimpArgs false
set_option linter.unusedSectionVars false
namespace Go.Ev

variable {P : Program} {val : Nat → Value} {ρ : Rho}

/-- The operations, by their kinds. -/
inductive Shape (P : Program) : Op → Kd → Prop
  | move (x) : Shape P (.move x) (.p1 .mov)
  | assign (x) : Shape P (.assign x) (.p1 .mov)
  | pick (c a b) : Shape P (.pick c a b) .p3
  | loadN (t x n) : pt? P t = some (true, n) → Shape P (.load t x) (.r1 (.ldN n))
  | load1 (t x n) : pt? P t = some (false, n) → Shape P (.load t x) (.r1 .ld1)
  | store (t a x n) : sz? P t = some n → Shape P (.store t a x) (.ef (.store n))
  | fieldAddr (s x f k) : fieldAddrK P s f = .p1 k → Shape P (.fieldAddr s x f) (.p1 k)
  | nilCheck (x) : Shape P (.nilCheck x) (.p1 .nck)
  | indexAddr (t x i k) : indexAddrK P t = .p2 k → Shape P (.indexAddr t x i) (.p2 k)
  | index (t x i k) : indexK P t = .p2 k → Shape P (.index t x i) (.p2 k)
  | bin (o t x y t' k) : binK P o t x y = .p2 k → Shape P (.binOp o t x y t') (.p2 k)
  | un (o t x k) : unK o = .p1 k → Shape P (.unOp o t x) (.p1 k)
  | extract (x i) : Shape P (.extract x i) (.p1 (.ext i))
  | field (t x f k) : fieldK P t f = .p1 k → Shape P (.field t x f) (.p1 k)
  | alloc (e z n) : zero? P e = some (z, n) → Shape P (.alloc e) (.al (.alloc z))
  | box (e x) : Shape P (.box e x) (.al .box)
  | build (t ps k) : buildK P t (ps.toList.map (·.1)) = .pn k → Shape P (.build t ps) (.pn k)
  | buildSlice (t n ps k) : buildSliceK P t n (ps.toList.map (·.1)) = .al k → Shape P (.buildSlice t n ps) (.al k)
  | makeSlice (t l c k) : makeSliceK P t = .al k → Shape P (.makeSlice t l c) (.al k)
  | slice (t x l h m k) : sliceK P t l.isSome h.isSome m.isSome = .pn k → Shape P (.slice t x l h m) (.pn k)
  | conv1 (s d x k) : convertK P s d = .p1 k → Shape P (.convert s d x) (.p1 k)
  | convR (s d x k) : convertK P s d = .r1 k → Shape P (.convert s d x) (.r1 k)
  | convA (s d x k) : convertK P s d = .al k → Shape P (.convert s d x) (.al k)
  | makeInterface (t x d) : P.underlying t = some d → (∀ ms, d ≠ .interface ms) → Shape P (.makeInterface t x) (.p1 (.ifc t))
  | makeFunc (f a b) : Shape P (.makeFunc (.func f) a b) (.pn (.clos f a.size))
  | makeMap (t) : Shape P (.makeMap t none) (.al .mmap)
  | lookup (t x i ok k e z n) : map? P t = some (k, e) → zero? P e = some (z, n) → Shape P (.lookup t x i ok) (.r2 k z ok)
  | insert (t m x v k e) : map? P t = some (k, e) → Shape P (.insert t m x v) (.ef (.mup k))
  | mapUpdate (t m x v k e) : map? P t = some (k, e) → Shape P (.mapUpdate t m x v) (.ef (.mup k))
  | mapEntry (t m x k e z n) : map? P t = some (k, e) → zero? P e = some (z, n) → Shape P (.mapEntry t m x) (.ef (.men k z))
  | entryStore (t m s x) : Shape P (.entryStore t m s x) (.ef .ens)
  | range (t x a b) : P.underlying t = some (.map a b) → Shape P (.range t x) (.ef .range)
  | next (it) : Shape P (.next it false) (.ef .next)
  | entry (it) : Shape P (.entry it) (.r1 .entry)
  | call1 (c b k) : c.callee = .builtin b → builtinK P b c.argTypes.toList = .p1 k → Shape P (.call c) (.p1 k)
  | callN (c b k) : c.callee = .builtin b → builtinK P b c.argTypes.toList = .pn k → Shape P (.call c) (.pn k)
  | callR (c b k) : c.callee = .builtin b → builtinK P b c.argTypes.toList = .r1 k → Shape P (.call c) (.r1 k)
  | callE (c b k) : c.callee = .builtin b → builtinK P b c.argTypes.toList = .ef k → Shape P (.call c) (.ef k)
  | callV (c f) : c.callee = .value f → Shape P (.call c) .cl

theorem bif_else {b : Bool} {x : Kd} (h : (bif b then x else Kd.no) ≠ .no) : (bif b then x else Kd.no) = x ∧ b = true := by
  cases b with
  | false => exact absurd rfl h
  | true => exact ⟨rfl, rfl⟩
theorem opK_shape {op : Op} (h : opK P op ≠ .no) : Shape P op (opK P op) := by
  cases op <;> simp only [opK, ne_eq, not_true_eq_false] at h ⊢
  case move => exact .move _
  case assign => exact .assign _
  case pick => exact .pick _ _ _
  case load t x => split at h <;> first | exact .loadN _ _ _ ‹_› | exact .load1 _ _ _ ‹_› | exact absurd rfl h
  case store t a x => split at h <;> first | exact .store _ _ _ _ ‹_› | exact absurd rfl h
  case fieldAddr s x f =>
    cases hk : fieldAddrK P s f <;> first | exact .fieldAddr _ _ _ _ hk | (exfalso; unfold fieldAddrK at hk; (repeat' split at hk) <;> simp_all [fieldAddrK])
  case nilCheck => exact .nilCheck _
  case indexAddr t x i =>
    cases hk : indexAddrK P t <;> first | exact .indexAddr _ _ _ _ hk | (exfalso; unfold indexAddrK at hk; (repeat' split at hk) <;> simp_all [indexAddrK])
  case index t x i =>
    cases hk : indexK P t <;> first | exact .index _ _ _ _ hk | (exfalso; unfold indexK at hk; (repeat' split at hk) <;> simp_all [indexK])
  case binOp o t x y t' =>
    cases hk : binK P o t x y <;> first | exact .bin _ _ _ _ _ _ hk | (exfalso; unfold binK at hk h; (repeat' split at hk) <;> simp_all)
  case unOp o t x =>
    cases hk : unK o <;> first | exact .un _ _ _ _ hk | (exfalso; unfold unK at hk; (repeat' split at hk) <;> simp_all [unK])
  case extract => exact .extract _ _
  case field t x f =>
    cases hk : fieldK P t f <;> first | exact .field _ _ _ _ hk | (exfalso; unfold fieldK at hk; (repeat' split at hk) <;> simp_all [fieldK])
  case alloc e => split at h <;> first | exact .alloc _ _ _ ‹_› | exact absurd rfl h
  case box => exact .box _ _
  case build t ps =>
    cases hk : buildK P t (ps.toList.map (·.1)) <;> first | exact .build _ _ _ hk | (exfalso; unfold buildK at hk; (repeat' split at hk) <;> simp_all [buildK])
  case buildSlice t n ps =>
    cases hk : buildSliceK P t n (ps.toList.map (·.1)) <;> first | exact .buildSlice _ _ _ _ hk | (exfalso; rw [hk] at h; unfold buildSliceK at hk; (repeat' split at hk) <;> first | (cases hk; done) | (exact h rfl) | (have := (bif_no hk (by simp)).2; cases this))
  case makeSlice t l c =>
    cases hk : makeSliceK P t <;> first | exact .makeSlice _ _ _ _ hk | (exfalso; rw [hk] at h; unfold makeSliceK at hk; (repeat' split at hk) <;> first | (cases hk; done) | (exact h rfl) | (have := (bif_no hk (by simp)).2; cases this))
  case slice t x l hh m =>
    cases hk : sliceK P t l.isSome hh.isSome m.isSome <;> first | exact .slice _ _ _ _ _ _ hk | (exfalso; unfold sliceK at hk; (repeat' split at hk) <;> simp_all [sliceK])
  case convert s d x =>
    cases hk : convertK P s d <;> first | exact .conv1 _ _ _ _ hk | exact .convR _ _ _ _ hk | exact .convA _ _ _ _ hk | (exfalso; rw [hk] at h; unfold convertK at hk; (repeat' split at hk) <;> first | (cases hk; done) | (exact h rfl) | (have := (bif_no hk (by simp)).2; cases this))
  case makeInterface t x =>
    split at h
    · exact absurd rfl h
    · rename_i d hn hu; exact .makeInterface t x d hu fun ms k => hn ms (by rw [k])
    · exact absurd rfl h
  case makeFunc f a b => cases f <;> simp only [not_true_eq_false] at h ⊢; exact .makeFunc _ _ _
  case makeMap t r => cases r <;> simp only [not_true_eq_false] at h ⊢; exact .makeMap _
  case lookup t x i ok =>
    split at h
    · rename_i k e hm
      split at h
      · rename_i z n hz; exact .lookup _ _ _ _ _ _ _ _ hm hz
      · exact absurd rfl h
    · exact absurd rfl h
  case insert t m x v =>
    split at h
    · rename_i k e hm; exact .insert _ _ _ _ _ _ hm
    · exact absurd rfl h
  case mapUpdate t m x v =>
    split at h
    · rename_i k e hm; exact .mapUpdate _ _ _ _ _ _ hm
    · exact absurd rfl h
  case mapEntry t m x =>
    split at h
    · rename_i k e hm
      split at h
      · rename_i z n hz; exact .mapEntry _ _ _ _ _ _ _ hm hz
      · exact absurd rfl h
    · exact absurd rfl h
  case entryStore => exact .entryStore _ _ _ _
  case range t x =>
    split at h
    · rename_i a b hu; exact .range _ _ _ _ hu
    · exact absurd rfl h
  case next it s => cases s <;> simp only [not_true_eq_false] at h ⊢; exact .next _
  case entry => exact .entry _
  case call c =>
    split at h
    · rename_i b hc
      cases hk : builtinK P b c.argTypes.toList <;> first | exact .call1 _ _ _ hc hk | exact .callN _ _ _ hc hk | exact .callR _ _ _ hc hk | exact .callE _ _ _ hc hk |
        (exfalso; rw [hk] at h; unfold builtinK at hk; (try unfold lenK at hk); (try unfold appK at hk); (repeat' split at hk) <;> first | (cases hk; done) | (exact h rfl) | (have := (bif_no hk (by simp)).2; cases this))
    · rename_i f hc; exact .callV _ _ hc
    · exact absurd rfl h

section
variable {e : Operand → Value} {o : Oper} {w : World}

theorem asNat_V {a : AV} {n : Nat} {v : Value} (h : asNat a = some n) (hV : V val ρ a v) : ∃ k, v = .int k (n : Int) := by
  obtain ⟨k, rfl⟩ := asNat_some.1 h
  exact ⟨k, V_int.1 hV⟩

theorem sh_sound {a b v : AV} {u u' : Value} {op : BinOp} {f : IntKind → Int → Nat → Int} {t : TypeId} (hop : (op = .shl ∧ f = shlI) ∨ (op = .shr ∧ f = shrI)) (h : shF f a b = some v) (ha : V val ρ a u) (hb : V val ρ b u') :
    Tells val ρ P (binOp op t u u') w v := by
  obtain ⟨p, hp, h⟩ := orec_some h
  obtain ⟨n, hn, h⟩ := orec_some h
  cases h
  rw [asInt_some] at hp
  subst hp
  rw [V_int.1 ha]
  obtain ⟨k, rfl⟩ := asNat_V hn hb
  have h0 : ¬ ((n : Int) < 0) := by omega
  have hp2 : Int.ofNat (Nat.pow 2 (Nat.min n p.1.bits)) = (2 : Int) ^ (min n p.1.bits) := by
    show (((2 ^ (min n p.1.bits) : Nat)) : Int) = _
    simp
  rcases hop with ⟨rfl, rfl⟩ | ⟨rfl, rfl⟩
  · refine .mk (.int p.1 (p.1.wrap (p.2 * 2 ^ min n p.1.bits))) ?_ (V_int.2 ?_)
    · simp only [binOp_shl, Op.shift, h0, if_false, Int.toNat_natCast]; rfl
    · unfold shlI; rw [wrap_eq, hp2]; rfl
  · refine .mk (.int p.1 (p.2.fdiv (2 ^ min n p.1.bits))) ?_ (V_int.2 ?_)
    · simp only [binOp_shr, Op.shift, h0, if_false, Int.toNat_natCast]; rfl
    · unfold shrI; rw [hp2]

/-- Numbers and texts. -/
theorem bin_sound {op : BinOp} {t : TypeId} {a b v : AV} {u u' : Value} {i : I2} {s : S2}
    (hi : ∀ k x y r, i k x y = some r → Tells val ρ P (binOp op t (.int k x) (.int k y)) w r)
    (hs : ∀ (x y : ByteArray) r, s (enc x.data.toList) x.data.toList.length (enc y.data.toList) y.data.toList.length = some r → Tells val ρ P (binOp op t (.string x) (.string y)) w r)
    (h : binF i s a b = some v) (ha : V val ρ a u) (hb : V val ρ b u') : Tells val ρ P (binOp op t u u') w v := by
  rcases orec_or h with ⟨_, h⟩ | ⟨p, hp, h⟩
  · obtain ⟨p, hp, h⟩ := orec_some h
    obtain ⟨q, hq, h⟩ := orec_some h
    rw [asStr_some] at hp hq
    rw [hp] at ha
    rw [hq] at hb
    obtain ⟨x, rfl, h1, h2⟩ := V_str.1 ha
    obtain ⟨y, rfl, h3, h4⟩ := V_str.1 hb
    exact hs x y v (by rw [h1, h2, h3, h4]; exact h)
  · obtain ⟨q, hq, h⟩ := orec_some h
    obtain ⟨hk, h⟩ := brec_true h
    rw [asInt_some] at hp hq
    rw [kEq_iff] at hk
    rw [hp] at ha
    rw [hq, ← hk] at hb
    rw [V_int] at ha hb
    subst ha hb
    exact hi _ _ _ _ h

theorem le_sLt (x y : ByteArray) : (Op.bytesLess x.toList y.toList || x.toList == y.toList) = !Op.bytesLess y.toList x.toList := by
  have : ∀ l m : List UInt8, (Op.bytesLess l m || l == m) = !Op.bytesLess m l := by
    intro l
    induction l with
    | nil => intro m; cases m <;> rfl
    | cons a l ih =>
      intro m
      cases m with
      | nil => rfl
      | cons b m =>
        have e1 : Op.bytesLess (a :: l) (b :: m) = (decide (a < b) || (a == b && Op.bytesLess l m)) := by rw [Op.bytesLess]
        have e2 : Op.bytesLess (b :: m) (a :: l) = (decide (b < a) || (b == a && Op.bytesLess m l)) := by rw [Op.bytesLess]
        have e3 : (a :: l == b :: m) = (a == b && l == m) := rfl
        rw [e1, e2, e3]
        have := ih m
        by_cases hab : a = b
        · subst hab
          have hn : ¬ a < a := fun h => by have := UInt8.lt_iff_toNat_lt.1 h; omega
          simp [hn]; exact this
        · have hba : ¬ b = a := fun h => hab h.symm
          have hne : a.toNat ≠ b.toNat := fun h => hab (UInt8.toNat_inj.1 h)
          by_cases hlt : a < b
          · have : ¬ b < a := fun h => by have h1 := UInt8.lt_iff_toNat_lt.1 h; have h2 := UInt8.lt_iff_toNat_lt.1 hlt; omega
            simp [hlt, this, hba]
          · have : b < a := by rw [UInt8.lt_iff_toNat_lt] at hlt ⊢; omega
            simp [hlt, this, hab]
  exact this _ _

theorem p2_sound {f : Fn2} {x y : Operand} {a b v : AV} (hK : opK P o.op = .p2 f) (hO : opnds o.op = [x, y]) (ha : V val ρ a (e x)) (hb : V val ρ b (e y)) (hc : ∀ c, e (.const c) = c) (hf : k2 f a b = some v) :
    ∃ u, (execOp e o).run P w = .ok (.value u) w ∧ V val ρ v u := by
  have hS := opK_shape (P := P) (op := o.op) (by rw [hK]; simp)
  rw [hK] at hS
  obtain ⟨dst, op, type, pos, after, guard⟩ := o
  have fin : ∀ s : Sem Value, Tells val ρ P s w v → ∃ u, (do pure (Next.value (← s)) : Sem Next).run P w = .ok (.value u) w ∧ V val ρ v u := by
    rintro s ⟨u, h, hV⟩
    exact ⟨u, by simp [h], hV⟩
  simp only at hS hO hK
  clear hK
  cases hS with
  | indexAddr t x' i f hk =>
    simp [opnds, Op.operands] at hO
    obtain ⟨rfl, rfl⟩ := hO
    refine fin _ ?_
    unfold indexAddrK at hk
    split at hk
    · rename_i n el hu
      split at hk
      · rename_i m hm
        cases hk
        obtain ⟨p, hp, hf⟩ := orec_some hf
        obtain ⟨j, hj, hf⟩ := orec_some hf
        obtain ⟨hlt, hf⟩ := brec_true hf
        cases hf
        rw [asPtr_some] at hp
        subst hp
        obtain ⟨L, hL, hx⟩ := V_ptr.1 ha
        obtain ⟨k, hy⟩ := asNat_V hj hb
        have hlt : j < n := by simpa [Nat.blt_eq] using hlt
        refine .mk (.pointer (some ⟨L.blk, L.sh + (p.2 + j * m), none⟩)) ?_ (V_ptr.2 ⟨L, hL, rfl⟩)
        simp [Instr.indexAt, hx, hy, asIntOf, und_run hu, Instr.sureAddr, sz_run hm, Addr.add_lit, hlt, Nat.add_assoc]
      · cases hk
    · rename_i el hu
      split at hk
      · rename_i m hm
        cases hk
        obtain ⟨s, hs, hf⟩ := orec_some hf
        obtain ⟨hsz, hf⟩ := brec_true hf
        obtain ⟨j, hj, hf⟩ := orec_some hf
        obtain ⟨hlt, hf⟩ := brec_true hf
        cases hf
        rw [asSlc_some] at hs
        rw [hs] at ha
        obtain ⟨L, ad, c, hL, hx, hlen, _, hcap⟩ := V_slc.1 ha
        obtain ⟨k, hy⟩ := asNat_V hj hb
        have hlt : j < s.len := by simpa [Nat.blt_eq] using hlt
        rcases hcap with rfl | ⟨rfl, _⟩
        · omega
        refine .mk (.pointer (some ⟨L.blk, L.sh + (s.off + j * m), none⟩)) ?_ (V_ptr.2 ⟨L, hL, rfl⟩)
        simp [Instr.indexAt, hx, hy, asIntOf, und_run hu, sz_run hm, Addr.add_lit, hlt, Nat.add_assoc]
      · cases hk
    · cases hk
  | index t x' i f hk =>
    simp [opnds, Op.operands] at hO
    obtain ⟨rfl, rfl⟩ := hO
    refine fin _ ?_
    unfold indexK at hk
    split at hk
    · rename_i n el hu
      split at hk
      · rename_i ag m hm
        cases hk
        obtain ⟨l, hl, hf⟩ := orec_some hf
        obtain ⟨j, hj, hf⟩ := orec_some hf
        obtain ⟨hlt, hf2⟩ := brec_true hf
        rw [asAgg_some] at hl
        subst hl
        obtain ⟨us, hx, hus⟩ := V_agg.1 ha
        obtain ⟨k, hy⟩ := asNat_V hj hb
        have hlt : j < n := by simpa [Nat.blt_eq] using hlt
        obtain ⟨u, hu1, hu2⟩ := part_run hm hus hf2 w
        refine .mk u ?_ hu2
        simp [Instr.index, hx, hy, asIntOf, und_run hu, hlt, sz_run (pt_spec hm).2]
        exact hu1
      · cases hk
    · rename_i hu
      cases hk
      obtain ⟨p, hp, hf⟩ := orec_some hf
      obtain ⟨j, hj, hf⟩ := orec_some hf
      obtain ⟨hlt, hf⟩ := brec_true hf
      cases hf
      rw [asStr_some] at hp
      subst hp
      obtain ⟨s, hx, h1, h2⟩ := V_str.1 ha
      obtain ⟨k, hy⟩ := asNat_V hj hb
      have hlt : j < p.2 := by simpa [Nat.blt_eq] using hlt
      have hj : j < s.size := by have : s.size = s.data.toList.length := by simp
                                 omega
      refine .mk (.int .u8 ((s[j]).toNat : Int)) ?_ (V_int.2 ?_)
      · simp [Instr.index, hx, hy, asIntOf, und_run hu, ByteArray.getElem?_lt' s j hj]
      · have hj' : j < s.data.toList.length := by omega
        rw [← h2, byteAt_eq _ _ hj']
        rfl
    · cases hk
  | bin op t x' y' t' f hk =>
    simp [opnds, Op.operands] at hO
    obtain ⟨rfl, rfl⟩ := hO
    refine fin _ ?_
    have plain : op ≠ .eql → op ≠ .neq → Tells val ρ P (binOp op t (e x') (e y')) w v → Tells val ρ P (do eqGuard op t x' y' (e x') (e y'); binOp op t (e x') (e y')) w v := by
      intro h1 h2 ⟨u, hu, hV⟩
      have : eqGuard op t x' y' (e x') (e y') = pure () := by
        unfold eqGuard
        cases op <;> first | rfl | exact absurd rfl h1 | exact absurd rfl h2
      exact ⟨u, by rw [this]; simpa using hu, hV⟩
    have no : ∀ {i : I2} {s : S2}, (∀ k x y r, i k x y = some r → Tells val ρ P (binOp op t (.int k x) (.int k y)) w r) → s = sNo → binF i s a b = some v → Tells val ρ P (binOp op t (e x') (e y')) w v :=
      fun hi hs h => bin_sound hi (fun _ _ _ h => by rw [hs] at h; cases h) h ha hb
    have so : ∀ s : ByteArray, s.toList = s.data.toList := ByteArray.toList_eq
    unfold binK at hk
    split at hk
    · cases hk
      refine plain (by simp) (by simp) (bin_sound ?_ ?_ hf ha hb)
      · intro k x y r h; cases h
        exact .mk _ (by rw [binOp_add]; rfl) (by rw [wrap_eq]; exact V_int.2 rfl)
      · intro x y r h
        obtain ⟨hlt, h⟩ := brec_true h
        cases h
        have hlt : x.data.toList.length + y.data.toList.length < 1099511627776 := by simpa [Nat.blt_eq] using hlt
        have e1 : x.size = x.data.toList.length := by simp
        have e2 : y.size = y.data.toList.length := by simp
        refine .mk (.string (x ++ y)) ?_ (V_str.2 ⟨_, rfl, ?_, ?_⟩)
        · rw [binOp_string_add]
          unfold Op.stringOp
          have : ¬ ((x.size + y.size : Nat) : Int) > IntKind.i64.max := by rw [IntKind.max_i64, e1, e2]; omega
          simp only [this, if_false]
          rfl
        · have : (x ++ y).data.toList = x.data.toList ++ y.data.toList := by simp [ByteArray.data_append]
          rw [this]; simp
        · have : (x ++ y).data.toList = x.data.toList ++ y.data.toList := by simp [ByteArray.data_append]
          rw [this, enc_append]; rfl
    · cases hk
      exact plain (by simp) (by simp) (no (fun k x y r h => by cases h; exact .mk _ (by rw [binOp_sub]; rfl) (by rw [wrap_eq]; exact V_int.2 rfl)) rfl hf)
    · cases hk
      exact plain (by simp) (by simp) (no (fun k x y r h => by cases h; exact .mk _ (by rw [binOp_mul]; rfl) (by rw [wrap_eq]; exact V_int.2 rfl)) rfl hf)
    · cases hk
      refine plain (by simp) (by simp) (no (fun k x y r h => ?_) rfl hf)
      obtain ⟨h0, h⟩ := brec_none h
      cases h
      have h0 : ¬ y = 0 := fun k => by rw [(iEq_iff y 0).2 k] at h0; cases h0
      exact .mk _ (by rw [binOp_quo]; unfold Op.intDiv; simp only [h0, if_false]; rfl) (by rw [wrap_eq]; exact V_int.2 rfl)
    · cases hk
      refine plain (by simp) (by simp) (no (fun k x y r h => ?_) rfl hf)
      obtain ⟨h0, h⟩ := brec_none h
      cases h
      have h0 : ¬ y = 0 := fun k => by rw [(iEq_iff y 0).2 k] at h0; cases h0
      exact .mk _ (by rw [binOp_rem]; unfold Op.intDiv; simp only [h0, if_false]; rfl) (V_int.2 rfl)
    · split at hk
      · rename_i et ht
        cases hk
        obtain ⟨r, hr, hf⟩ := orec_some hf
        cases hf
        obtain ⟨h1, _, h3, _⟩ := eqAt_sound ht hr ha hb (fun c h => by rw [h, hc]) w
        exact .mk (.bool r) (by simp [h1, h3]) (V_bool.2 rfl)
      · cases hk
    · split at hk
      · rename_i et ht
        cases hk
        obtain ⟨r, hr, hf⟩ := orec_some hf
        cases hf
        obtain ⟨_, h1, _, h3⟩ := eqAt_sound ht hr ha hb (fun c h => by rw [h, hc]) w
        exact .mk (.bool (!r)) (by simp [h1, h3]) (V_bool.2 rfl)
      · cases hk
    · cases hk
      refine plain (by simp) (by simp) (bin_sound ?_ ?_ hf ha hb)
      · intro k x y r h; cases h
        exact .mk _ (by rw [binOp_lss]; rfl) (by rw [iLt_eq]; exact V_bool.2 rfl)
      · intro x y r h; cases h
        refine .mk _ (by rw [binOp_string_lss]; rfl) ?_
        rw [sLt_eq, so, so]; exact V_bool.2 rfl
    · cases hk
      refine plain (by simp) (by simp) (bin_sound ?_ ?_ hf ha hb)
      · intro k x y r h; cases h
        refine .mk _ (by rw [binOp_leq]; rfl) (V_bool.2 ?_)
        rw [iLt_eq]; congr 1; rw [Bool.eq_iff_iff]; simp
      · intro x y r h; cases h
        refine .mk (.bool (Op.bytesLess x.toList y.toList || x.toList == y.toList)) (by simp [binOp, Op.stringOp]) (V_bool.2 ?_)
        rw [le_sLt, sLt_eq, so, so]
    · cases hk
      refine plain (by simp) (by simp) (bin_sound ?_ ?_ hf ha hb)
      · intro k x y r h; cases h
        refine .mk _ (by rw [binOp_gtr]; rfl) (V_bool.2 ?_)
        rw [iLt_eq]
      · intro x y r h; cases h
        refine .mk (.bool (!(Op.bytesLess x.toList y.toList || x.toList == y.toList))) (by simp [binOp, Op.stringOp]) (V_bool.2 ?_)
        rw [le_sLt, sLt_eq, so, so, Bool.not_not]
    · cases hk
      refine plain (by simp) (by simp) (bin_sound ?_ ?_ hf ha hb)
      · intro k x y r h; cases h
        refine .mk _ (by rw [binOp_geq]; rfl) (V_bool.2 ?_)
        rw [iLt_eq]; congr 1; rw [Bool.eq_iff_iff]; simp
      · intro x y r h; cases h
        refine .mk (.bool (!Op.bytesLess x.toList y.toList)) (by simp [binOp, Op.stringOp]) (V_bool.2 ?_)
        rw [sLt_eq, so, so]
    · cases hk
      refine plain (by simp) (by simp) (no (fun k x y r h => ?_) rfl hf)
      cases h
      exact .mk _ (by rw [binOp_and]; exact bits_run .and k x y w (.inl rfl)) (V_int.2 rfl)
    · cases hk
      refine plain (by simp) (by simp) (no (fun k x y r h => ?_) rfl hf)
      cases h
      exact .mk _ (by rw [binOp_or]; exact bits_run .or k x y w (.inr (.inl rfl))) (V_int.2 rfl)
    · cases hk
      refine plain (by simp) (by simp) (no (fun k x y r h => ?_) rfl hf)
      cases h
      exact .mk _ (by rw [binOp_xor]; exact bits_run .xor k x y w (.inr (.inr rfl))) (V_int.2 rfl)
    · cases hk
      exact plain (by simp) (by simp) (sh_sound (.inl ⟨rfl, rfl⟩) hf ha hb)
    · cases hk
      exact plain (by simp) (by simp) (sh_sound (.inr ⟨rfl, rfl⟩) hf ha hb)
    · cases hk

theorem p3_sound {x y z : Operand} {a b c v : AV} (hK : opK P o.op = .p3) (hO : opnds o.op = [x, y, z]) (ha : V val ρ a (e x)) (hb : V val ρ b (e y)) (hc : V val ρ c (e z)) (hf : pickF a b c = some v) :
    ∃ u, (execOp e o).run P w = .ok (.value u) w ∧ V val ρ v u := by
  have hS := opK_shape (P := P) (op := o.op) (by rw [hK]; simp)
  rw [hK] at hS
  obtain ⟨dst, op, type, pos, after, guard⟩ := o
  simp only at hS hO hK
  clear hK
  cases hS with
  | pick c' a' b' =>
    simp [opnds, Op.operands] at hO
    obtain ⟨rfl, rfl, rfl⟩ := hO
    obtain ⟨t, ht, hf⟩ := orec_some hf
    rw [asBool_some] at ht
    subst ht
    have hx := V_bool.1 ha
    cases hf
    cases t
    · exact ⟨e b', by simp [execOp, hx, Go.asBool], hc⟩
    · exact ⟨e a', by simp [execOp, hx, Go.asBool], hb⟩
end
end Go.Ev
