/- Operations that read the memory. -/
import Derived.Test.YtgchblfkmgnaeaaGreatDoorEvH
import Derived.Laws.BytesArg
import Derived.MapKept
import Derived.Laws.IdiomCopy
set_option linter.unusedVariables false
set_option linter.unusedSimpArgs false
set_option linter.unusedSectionVars false
namespace Go.Ev

variable {P : Program} {val : Nat → Value} {ρ : Rho}

/-- What stands in an abstract memory stands in the model's. -/
def Rd (val : Nat → Value) (ρ : Rho) (g : Gt) (w : World) : Prop := ∀ r o, g r = some o → ∃ L, ρ r = some L ∧ ObR val ρ L w.heap o

theorem exists_list {p : Nat → Value → Prop} : ∀ {l : List AV} {k : Nat}, (∀ i a, l[i]? = some a → ∃ v, p (k + i) v ∧ V val ρ a v) → ∃ us, Vs val ρ l us ∧ ∀ i v, us[i]? = some v → p (k + i) v
  | [], k, _ => ⟨[], Vs_nil, fun i v h => by simp at h⟩
  | a :: l, k, h => by
    obtain ⟨v, hv, hV⟩ := h 0 a rfl
    obtain ⟨us, h1, h2⟩ := exists_list (l := l) (k := k + 1) (fun i b hb => by
      have := h (i + 1) b (by simpa using hb)
      rwa [show k + (i + 1) = k + 1 + i by omega] at this)
    refine ⟨v :: us, Vs_cons hV h1, fun i u hu => ?_⟩
    cases i with
    | zero => simp at hu; subst hu; simpa using hv
    | succ i => have := h2 i u (by simpa using hu); rwa [show k + 1 + i = k + (i + 1) by omega] at this

theorem row_some {x : Option Ob} {cs : List AV} (h : row? x = some cs) : ∃ ro, x = some (.row ro cs) := by
  obtain ⟨o, ho, h⟩ := orec_some h
  cases o with
  | row ro c => cases h; exact ⟨ro, ho⟩
  | mp => cases h
  | mit => cases h
theorem mrow_some {x : Option Ob} {cs : List AV} (h : mrow? x = some cs) : x = some (.row false cs) := by
  obtain ⟨o, ho, h⟩ := orec_some h
  cases o with
  | row ro c => cases ro <;> cases h; exact ho
  | mp => cases h
  | mit => cases h
theorem mapX_some {x : Option Ob} {p : List Ent × Nat} (h : mapX x = some p) : x = some (.mp p.1 p.2) := by
  obtain ⟨o, ho, h⟩ := orec_some h
  cases o with
  | row => cases h
  | mp => cases h; exact ho
  | mit => cases h
theorem mit_some {x : Option Ob} {i : Mi} (h : mit? x = some i) : x = some (.mit i.m i.since i.seen i.last) := by
  obtain ⟨o, ho, h⟩ := orec_some h
  cases o with
  | row => cases h
  | mp => cases h
  | mit => cases h; exact ho

/-- A row's cells. -/
theorem row_cells {g : Gt} {w : World} {r : Id} {cs : List AV} {L : Loc} (hR : Rd val ρ g w) (hL : ρ r = some L) (h : row? (g r) = some cs) :
    L.sh + cs.length ≤ L.size ∧ ∀ i a, cs[i]? = some a → ∃ v, w.cell? ⟨L.blk, L.sh + i, none⟩ = some v ∧ V val ρ a v := by
  obtain ⟨ro, hg⟩ := row_some h
  obtain ⟨L', hL', _, c, e, f, h1, h2, h3, h4, _⟩ := hR r _ hg
  rw [hL] at hL'
  cases hL'
  refine ⟨h3, fun i a hi => ?_⟩
  obtain ⟨v, hv, hV⟩ := h4 i a hi
  exact ⟨v, by simp [World.cell?, h1, hv], hV⟩

theorem cut_cells {w : World} {cs l : List AV} {L : Loc} {off n : Nat} (hc : ∀ i a, cs[i]? = some a → ∃ v, w.cell? ⟨L.blk, L.sh + i, none⟩ = some v ∧ V val ρ a v) (h : cut cs off n = some l) :
    ∃ us : List Value, Vs val ρ l us ∧ us.length = n ∧ (∀ j v, us[j]? = some v → w.cell? ⟨L.blk, L.sh + off + j, none⟩ = some v) ∧ (loadCells ⟨L.blk, L.sh + off, none⟩ n).run P w = .ok us.toArray w := by
  obtain ⟨h1, h2⟩ := cut_get h
  obtain ⟨us, hu1, hu2⟩ := exists_list (p := fun i v => w.cell? ⟨L.blk, L.sh + i, none⟩ = some v) (l := l) (k := off) (fun i a hi => by
    have hlt : i < n := by rw [← h1]; exact (List.getElem?_eq_some_iff.1 hi).1
    rw [h2 i hlt] at hi
    exact hc _ _ hi)
  have hl : us.length = n := by rw [Vs_len hu1, h1]
  have h3 : ∀ j v, us[j]? = some v → w.cell? ⟨L.blk, L.sh + off + j, none⟩ = some v := fun j v hj => by rw [Nat.add_assoc]; exact hu2 j v hj
  refine ⟨us, hu1, hl, h3, ?_⟩
  have := run_loadCells_list (P := P) w ⟨L.blk, L.sh + off, none⟩ us (fun j v hj => by rw [Addr.add_lit]; exact h3 j v hj)
  rwa [hl] at this

theorem byte_some {a : AV} {n : Nat} (h : byte? a = some n) : a = .int .u8 (n : Int) ∧ n < 256 := by
  unfold byte? at h
  split at h
  · rename_i k m
    obtain ⟨hk, h⟩ := brec_true h
    obtain ⟨hlt, h⟩ := brec_true h
    cases h
    rw [kEq_iff] at hk
    subst hk
    exact ⟨rfl, by simpa [Nat.blt_eq] using hlt⟩
  · cases h
theorem ofBytes_some : ∀ {l : List AV} {us : List Value} {b : Nat}, ofBytes l = some b → Vs val ρ l us → ∃ ns : List Int, us = ns.map (Value.int .u8) ∧ enc (ns.map fun n => UInt8.ofNat n.toNat) = b
  | [], us, b, h, hs => by
    cases h
    rw [Vs_nil_iff.1 hs]
    exact ⟨[], rfl, rfl⟩
  | a :: l, us, b, h, hs => by
    have e : ofBytes (a :: l) = Option.rec none (fun b => Option.rec none (fun r => some (Nat.add b (Nat.mul 256 r))) (ofBytes l)) (byte? a) := rfl
    rw [e] at h
    obtain ⟨x, hx, h⟩ := orec_some h
    obtain ⟨y, hy, h⟩ := orec_some h
    cases h
    obtain ⟨rfl, hlt⟩ := byte_some hx
    obtain ⟨v, r, rfl, hV, hVs⟩ := Vs_cons_iff.1 hs
    obtain ⟨ns, rfl, hn⟩ := ofBytes_some hy hVs
    rw [V_int] at hV
    subst hV
    refine ⟨(x : Int) :: ns, rfl, ?_⟩
    rw [List.map_cons, enc_cons, hn]
    have : (UInt8.ofNat (x : Int).toNat).toNat = x := by simp; omega
    rw [this]; rfl

section
variable {e : Operand → Value} {o : Oper} {w : World}

theorem entries_sound {h : Hp} {m : AV} {es : List Ent} {u : Value} (hR : Rd val ρ h.get w) (he : entries h m = some es) (hm : V val ρ m u) :
    (u = .map none ∧ es = []) ∨ ∃ r a clock, u = .map (some r) ∧ w.heap[r]? = some (.map a clock) ∧ Es val ρ es a.toList := by
  rcases orec_or he with ⟨_, he⟩ | ⟨r, hr, he⟩
  · obtain ⟨_, hn, he⟩ := orec_some he
    cases he
    rw [nulIs_some hn] at hm
    obtain ⟨_, rfl⟩ := V_nul.1 hm
    exact .inl ⟨rfl, rfl⟩
  · obtain ⟨p, hp, he⟩ := orec_some he
    cases he
    rw [asMap_some] at hr
    subst hr
    obtain ⟨L, hL, rfl⟩ := V_map.1 hm
    obtain ⟨L', hL', _, a, h1, h2⟩ := hR r _ (mapX_some hp)
    rw [hL] at hL'
    cases hL'
    exact .inr ⟨L.blk, a, p.2, rfl, h1, h2⟩

theorem Es_len : ∀ {l : List Ent} {m : List MapEntry}, Es val ρ l m → m.length = l.length
  | [], m, h => by rw [show m = [] from h]; rfl
  | e :: l, m, h => by obtain ⟨x, r, rfl, _, _, _, h5⟩ := h; simp [Es_len h5]
theorem Es_get : ∀ {l : List Ent} {m : List MapEntry}, Es val ρ l m → ∀ {i : Nat} {x : Ent}, l[i]? = some x → ∃ y, m[i]? = some y ∧ V val ρ x.1 y.key ∧ V val ρ x.2.1 y.val ∧ y.born = x.2.2
  | [], m, h, i, x, hi => by simp at hi
  | e :: l, m, h, i, x, hi => by
    obtain ⟨y, r, rfl, h1, h2, h3, h5⟩ := h
    cases i with
    | zero => simp at hi; subst hi; exact ⟨y, rfl, h1, h2, h3⟩
    | succ i => simp at hi; obtain ⟨z, hz, hr⟩ := Es_get h5 hi; exact ⟨z, by simpa using hz, hr⟩
theorem Es_of_get : ∀ {l : List Ent} {m : List MapEntry}, m.length = l.length → (∀ (i : Nat) (x : Ent), l[i]? = some x → ∃ y, m[i]? = some y ∧ V val ρ x.1 y.key ∧ V val ρ x.2.1 y.val ∧ y.born = x.2.2) → Es val ρ l m
  | [], m, h, _ => List.length_eq_zero_iff.1 (by simpa using h)
  | b :: l, [], h, _ => by simp at h
  | b :: l, y :: m, h, H => by
    obtain ⟨z, hz, h1, h2, h3⟩ := H 0 b rfl
    simp at hz
    subst hz
    refine ⟨y, m, rfl, h1, h2, h3, Es_of_get (by simpa using h) fun i a hi => ?_⟩
    obtain ⟨u, hu, hV⟩ := H (i + 1) a (by simpa using hi)
    exact ⟨u, by simpa using hu, hV⟩

/-! Keys of maps. -/
/-- What a key's type is. -/
inductive KeyT (P : Program) (k : TypeId) : KT → Prop
  | one {n : Nat} : plain? P k = some n → KeyT P k (.one n)
  | flat {fs : Array Field} {ks : List Nat} : P.underlying k = some (.struct fs) → flat? P k = some ks → KeyT P k (.flat ks)
theorem map_spec {t : TypeId} {kt : KT} {e : TypeId} (h : map? P t = some (kt, e)) : ∃ k, P.underlying t = some (.map k e) ∧ KeyT P k kt := by
  unfold map? at h
  split at h
  · rename_i k e' hu
    split at h
    · cases h; exact ⟨k, hu, .one ‹_›⟩
    · split at h
      · rename_i fs hs
        split at h
        · cases h; exact ⟨k, hu, .flat hs ‹_›⟩
        · cases h
      · cases h
  · cases h

theorem plain_und {k : TypeId} {n : Nat} (h : plain? P k = some n) : (n = 0 ∧ ∃ j, P.underlying k = some (.int j)) ∨ (n = 1 ∧ P.underlying k = some .string) ∨ (n = 2 ∧ P.underlying k = some .bool) := by
  unfold plain? at h
  split at h <;> simp at h
  · exact .inl ⟨h.symm, _, ‹_›⟩
  · exact .inr (.inl ⟨h.symm, ‹_›⟩)
  · exact .inr (.inr ⟨h.symm, ‹_›⟩)
theorem checkKey_plain {k : TypeId} {n : Nat} (h : plain? P k = some n) (em : Bool) (d : Nat) (u : Value) (w : World) : (Instr.checkKey em (d + 1) k u).run P w = .ok () w := by
  rcases plain_und h with ⟨_, j, hu⟩ | ⟨_, hu⟩ | ⟨_, hu⟩ <;> (unfold Instr.checkKey; simp only [Sem.run_bind, und_run hu, Result.andThen_ok]; cases u <;> rfl)

theorem flatFs_mem (w : World) : ∀ (fs : List Field) (i : Nat) (ks : List Nat) (xs : List AV) (us : Array Value), flatFs P fs i = some ks → kindsOk ks xs = true → Vs val ρ xs (us.toList.drop i) →
    ∀ f ∈ fs, f.name ≠ "_" ∧ (∃ k, plain? P f.type = some k) ∧ ∃ u, (part f.type us f.offset).run P w = .ok u w
  | [], i, ks, xs, us, hf, hk, hx => by intro f hf; cases hf
  | f :: fs, i, ks, xs, us, hf, hk, hx => by
    simp only [flatFs] at hf
    split at hf
    · rename_i k r hp hr
      cases hc : (Nat.beq f.offset i && !(f.name == "_")) with
      | false => simp [hc] at hf
      | true =>
        simp [hc] at hf
        subst hf
        simp only [Bool.and_eq_true, Bool.not_eq_true', beq_eq_false_iff_ne] at hc
        obtain ⟨ho, hn⟩ := hc
        have ho := Nat.eq_of_beq_eq_true ho
        obtain ⟨a, l, rfl, hka, hkl⟩ := kindsOk_cons hk
        obtain ⟨u, ur, hu, hV, hVs⟩ := Vs_cons_iff.1 hx
        have g1 : us[i]? = some u := by
          have : (us.toList.drop i)[0]? = some u := by rw [hu]; rfl
          simpa using this
        have d1 : us.toList.drop (i + 1) = ur := by rw [← List.drop_drop, hu]; rfl
        intro g hg
        rcases List.mem_cons.1 hg with rfl | hg
        · exact ⟨hn, ⟨k, hp⟩, u, by unfold part; simp [agg_run (plain_agg hp), ho, g1]⟩
        · exact flatFs_mem w fs (i + 1) r l us hr hkl (by rw [d1]; exact hVs) g hg
    · cases hf
theorem forIn_yield {F : Field → PUnit → Sem (ForInStep PUnit)} {w : World} : ∀ (l : List Field), (∀ f ∈ l, (F f ⟨⟩).run P w = .ok (.yield ⟨⟩) w) → (forIn l PUnit.unit F).run P w = .ok ⟨⟩ w
  | [], _ => by simp
  | f :: l, h => by
    rw [List.forIn_cons, Sem.run_bind, h f (by simp)]
    exact forIn_yield l fun g hg => h g (by simp [hg])

theorem flat_fs {k : TypeId} {fs : Array Field} {ks : List Nat} (hu : P.underlying k = some (.struct fs)) (h : flat? P k = some ks) : flatFs P fs.toList 0 = some ks ∧ P.stoodInHeld k = false := by
  unfold flat? at h
  simp only [hu] at h
  cases hc : (P.eqGuardType P.depth k || P.stoodInHeld k) with
  | true => simp [hc] at h
  | false =>
    simp only [Bool.or_eq_false_iff] at hc
    simp [hc.1, hc.2] at h
    exact ⟨h, hc.2⟩

theorem keyOk_flat {ks : List Nat} {k : AV} (h : keyOk (.flat ks) k = true) : ∃ l, k = .agg l ∧ kindsOk ks l = true := by
  have h : (Option.rec false (fun l => kindsOk ks l) (asAgg k) : Bool) = true := h
  cases hl : asAgg k with
  | none => simp [hl] at h
  | some l => simp [hl] at h; exact ⟨l, asAgg_some.1 hl, h⟩

theorem checkKey_run {kt : KT} {k : TypeId} {a : AV} {u : Value} (hk : KeyT P k kt) (ha : keyOk kt a = true) (hV : V val ρ a u) (em : Bool) (w : World) : (Instr.checkKey em 10000 k u).run P w = .ok () w := by
  cases hk with
  | one hp => exact checkKey_plain hp em 9999 u w
  | flat hu hf =>
    obtain ⟨l, rfl, hks⟩ := keyOk_flat ha
    obtain ⟨us, rfl, hVs⟩ := V_agg.1 hV
    obtain ⟨hfs, _⟩ := flat_fs hu hf
    have hm := flatFs_mem (P := P) w _ 0 _ l us hfs hks (by simpa using hVs)
    show (Instr.checkKey em (9998 + 1 + 1) k (.agg us)).run P w = _
    unfold Instr.checkKey
    simp only [Sem.run_bind, und_run hu, Result.andThen_ok, ← Array.forIn_toList]
    refine Eq.trans (congrArg (fun r => Result.andThen r _) (forIn_yield _ fun f hf => ?_)) rfl
    obtain ⟨h1, ⟨n, h2⟩, x, h3⟩ := hm f hf
    simp [h1, h3, checkKey_plain h2]

theorem find_cons (k : AV) (x : Ent) (es : List Ent) (i : Nat) : find k (x :: es) i = Option.rec none (fun b => Bool.rec (find k es (Nat.succ i)) (some (some (i, x.2.1, x.2.2))) b) (keyEq k x.1) := rfl

theorem keyEq_plain {n : Nat} {a b : AV} (h : kindOk n a = true) : keyEq a b = plainEq a b := by
  unfold keyEq
  cases hg : asAgg a with
  | none => rfl
  | some l =>
    rw [asAgg_some.1 hg] at h
    match n, h with
    | 0, h => cases h
    | 1, h => cases h
    | n + 2, h => cases h

theorem plain_same {x y : AV} {u v : Value} (h : plainEq x y = some true) (hx : V val ρ x u) (hy : V val ρ y v) : u = v ∧ ∀ n, Instr.sameBits n v u = true := by
  rcases eqPlain h with ⟨k, m, n, rfl, rfl, hb⟩ | ⟨n, l, m, k, rfl, rfl, hb⟩ | ⟨c, d, rfl, rfl, hb⟩
  · rw [V_int] at hx hy
    subst hx hy
    have : m = n := by simpa using hb
    subst this
    exact ⟨rfl, fun n => by simp [Instr.sameBits]⟩
  · obtain ⟨s, rfl, h1, h2⟩ := V_str.1 hx
    obtain ⟨t, rfl, h3, h4⟩ := V_str.1 hy
    subst h1 h2 h3 h4
    rw [← bytes_beq] at hb
    have : s = t := by
      have : (s.data == t.data) = true := by cases s; cases t; exact hb.symm
      cases s; cases t; simp at this; rw [this]
    subst this
    refine ⟨rfl, fun n => ?_⟩
    cases n <;> simp [Instr.sameBits] <;> exact hb.symm
  · rw [V_bool] at hx hy
    subst hx hy
    have : c = d := by simpa using hb
    subst this
    exact ⟨rfl, fun n => by simp [Instr.sameBits]⟩
theorem aggs_same : ∀ {l m : List AV} {us vs : List Value}, aggEq l m = some true → Vs val ρ l us → Vs val ρ m vs → us = vs ∧ ∀ n, ((vs.zip us).all fun (x, y) => Instr.sameBits n x y) = true
  | [], m, us, vs, h, hx, hy => by
    obtain ⟨rfl, _⟩ := aggEq_nil h
    rw [Vs_nil_iff.1 hx, Vs_nil_iff.1 hy]
    exact ⟨rfl, fun n => rfl⟩
  | a :: l, m, us, vs, h, hx, hy => by
    obtain ⟨a', m', c, d, rfl, hc, hd, hb⟩ := aggEq_cons h
    have hc' : c = true := by cases c <;> simp at hb ⊢
    have hd' : d = true := by cases c <;> cases d <;> simp at hb ⊢
    subst hc' hd'
    obtain ⟨u, ur, rfl, hV, hVs⟩ := Vs_cons_iff.1 hx
    obtain ⟨v, vr, rfl, hV', hVs'⟩ := Vs_cons_iff.1 hy
    obtain ⟨h1, h2⟩ := plain_same hc hV hV'
    obtain ⟨h3, h4⟩ := aggs_same hd hVs hVs'
    refine ⟨by rw [h1, h3], fun n => ?_⟩
    rw [List.zip_cons_cons, List.all_cons]
    simp only [h2 n, Bool.true_and]
    exact h4 n

/-- What a search comes to. -/
def Found (val : Nat → Value) (ρ : Rho) (u : Value) (l : List MapEntry) (i0 : Nat) (f : Option (Nat × AV × Nat)) (r : Option (Nat × Value)) : Prop :=
  match f with
  | none => r = none
  | some (i, v, b) => ∃ x, l[i - i0]? = some x ∧ i0 ≤ i ∧ r = some (i, x.val) ∧ V val ρ v x.val ∧ x.born = b ∧ x.key = u ∧ Instr.sameBits 10000 x.key u = true

theorem find_now {k : TypeId} {n : Nat} {d : TypeDesc} {a : AV} {u : Value} (hp : plain? P k = some n) (hd : P.underlying k = some d) (ha : kindOk n a = true) (hV : V val ρ a u) :
    ∀ (es : List Ent) (l : List MapEntry) (i : Nat) (f : Option (Nat × AV × Nat)), find a es i = some f → Es val ρ es l → ∃ r, Instr.findNow d u l i = some r ∧ Found val ρ u l i f r
  | [], l, i, f, h, hE => by
    rw [show l = [] from hE]
    cases h
    exact ⟨none, rfl, rfl⟩
  | x :: es, l, i, f, h, hE => by
    obtain ⟨y, r, rfl, h1, h2, h3, hEr⟩ := hE
    rw [find_cons] at h
    obtain ⟨b, hb, h⟩ := orec_some h
    rw [keyEq_plain ha] at hb
    have hs : Instr.sameNow d u y.key = some b := by
      have hk := plain_equalIn (d := 0) (w := default) hp ha hb hV h1
      rcases eqPlain hb with ⟨j, m, m', rfl, hxk, rfl⟩ | ⟨n', l', m, j, rfl, hxk, rfl⟩ | ⟨c, c', rfl, hxk, rfl⟩
      · rw [hxk, V_int] at h1
        rw [V_int] at hV
        subst hV
        rcases plain_und hp with ⟨_, j', hu⟩ | ⟨rfl, hu⟩ | ⟨rfl, hu⟩
        · rw [hd] at hu; cases hu; simp [Instr.sameNow, h1]
        · cases ha
        · cases ha
      · rw [hxk] at h1
        obtain ⟨s, rfl, e1, e2⟩ := V_str.1 hV
        obtain ⟨t, ht, e3, e4⟩ := V_str.1 h1
        subst e1 e2 e3 e4
        rcases plain_und hp with ⟨rfl, j', hu⟩ | ⟨rfl, hu⟩ | ⟨rfl, hu⟩
        · cases ha
        · rw [hd] at hu; cases hu; simp [Instr.sameNow, ht, bytes_beq]
        · cases ha
      · rw [hxk, V_bool] at h1
        rw [V_bool] at hV
        subst hV
        rcases plain_und hp with ⟨rfl, j', hu⟩ | ⟨rfl, hu⟩ | ⟨rfl, hu⟩
        · cases ha
        · cases ha
        · rw [hd] at hu; cases hu; simp [Instr.sameNow, h1]
    cases b with
    | true =>
      cases h
      obtain ⟨e1, e2⟩ := plain_same hb hV h1
      exact ⟨some (i, y.val), by simp [Instr.findNow, hs], y, by simp, Nat.le_refl _, rfl, h2, h3, e1.symm, e2 _⟩
    | false =>
      obtain ⟨r', hr', hF⟩ := find_now hp hd ha hV es r (i + 1) f h hEr
      refine ⟨r', by simp [Instr.findNow, hs, hr'], ?_⟩
      cases f with
      | none => exact hF
      | some q =>
        obtain ⟨z, hz, hle, hrest⟩ := hF
        refine ⟨z, ?_, by omega, hrest⟩
        have : q.1 - i = (q.1 - (i + 1)) + 1 := by omega
        rw [this]; simpa using hz

theorem find_ask {k : TypeId} {ks : List Nat} {as : List AV} {us : Array Value} (hf : flat? P k = some ks) (ha : kindsOk ks as = true) (hV : Vs val ρ as us.toList) (w : World) :
    ∀ (es : List Ent) (l : List MapEntry) (i : Nat) (f : Option (Nat × AV × Nat)), find (.agg as) es i = some f → Es val ρ es l → ∃ r, (Instr.findAsking k (.agg us) l i).run P w = .ok r w ∧ Found val ρ (.agg us) l i f r
  | [], l, i, f, h, hE => by
    rw [show l = [] from hE]
    cases h
    exact ⟨none, rfl, rfl⟩
  | x :: es, l, i, f, h, hE => by
    obtain ⟨y, r, rfl, h1, h2, h3, hEr⟩ := hE
    rw [find_cons] at h
    obtain ⟨b, hb, h⟩ := orec_some h
    obtain ⟨m, hm, hb⟩ := orec_some (f := fun m => aggEq as m) (show (Option.rec none (fun m => aggEq as m) (asAgg x.1) : Option Bool) = some b from hb)
    rw [asAgg_some.1 hm] at h1
    obtain ⟨vs, hk, hVs⟩ := V_agg.1 h1
    have he : (Op.equal k (.agg us) y.key).run P w = .ok b w := by
      rw [hk]; exact (flat_run (d := 9998) hf ha hb hV hVs w).2
    cases b with
    | true =>
      cases h
      obtain ⟨e1, e2⟩ := aggs_same hb hV hVs
      have e3 : us = vs := Array.toList_inj.1 e1
      subst e3
      refine ⟨some (i, y.val), by simp [Instr.findAsking, he], y, by simp, Nat.le_refl _, rfl, h2, h3, hk, ?_⟩
      rw [hk]
      show Instr.sameBits (9999 + 1) (.agg us) (.agg us) = true
      have := e2 9999
      simp only [Instr.sameBits, beq_self_eq_true, Bool.true_and]
      exact this
    | false =>
      obtain ⟨r', hr', hF⟩ := find_ask hf ha hV w es r (i + 1) f h hEr
      refine ⟨r', by simp [Instr.findAsking, he, hr'], ?_⟩
      cases f with
      | none => exact hF
      | some q =>
        obtain ⟨z, hz, hle, hrest⟩ := hF
        refine ⟨z, ?_, by omega, hrest⟩
        have : q.1 - i = (q.1 - (i + 1)) + 1 := by omega
        rw [this]; simpa using hz

theorem find_run {kt : KT} {k : TypeId} {a : AV} {u : Value} (hk : KeyT P k kt) (ha : keyOk kt a = true) (hV : V val ρ a u) {es : List Ent} {l : List MapEntry} {f : Option (Nat × AV × Nat)} (h : find a es 0 = some f) (hE : Es val ρ es l) (w : World) :
    ∃ r, (Instr.findKey k u l).run P w = .ok r w ∧ Found val ρ u l 0 f r := by
  cases hk with
  | one hp =>
    have : ∃ d, P.underlying k = some d := by rcases plain_und hp with ⟨_, j, hu⟩ | ⟨_, hu⟩ | ⟨_, hu⟩ <;> exact ⟨_, hu⟩
    obtain ⟨d, hd⟩ := this
    obtain ⟨r, h1, h2⟩ := find_now hp hd ha hV es l 0 f h hE
    exact ⟨r, by simp [Instr.findKey, und_run hd, h1], h2⟩
  | flat hu hf =>
    obtain ⟨as, rfl, hks⟩ := keyOk_flat ha
    obtain ⟨us, rfl, hVs⟩ := V_agg.1 hV
    obtain ⟨r, h1, h2⟩ := find_ask hf hks hVs w es l 0 f h hE
    refine ⟨r, ?_, h2⟩
    cases l with
    | nil =>
      simp only [Instr.findAsking, Sem.run_pure, Result.ok.injEq] at h1
      simp [Instr.findKey, und_run hu, Instr.findNow, h1]
    | cons y l =>
      have : Instr.findNow (.struct ‹Array Field›) (.agg us) (y :: l) 0 = none := by simp [Instr.findNow, Instr.sameNow]
      simp [Instr.findKey, und_run hu, this, h1]
theorem key_stays {u v : Value} (h : Instr.sameBits 10000 v u = true) (w : World) : (Instr.keyThatStays v u).run P w = .ok u w := by
  simp [Instr.keyThatStays, h]

section
variable {dst : Option Tmp} {type : TypeId} {pos : String} {after : Array Edge} {guard : Option (Nat × Bool)}

theorem getMap_run {r : Nat} {a : Array MapEntry} {c : Nat} {w : World} (h : w.heap[r]? = some (.map a c)) : (getObj r).run P w = .ok (.map a c) w := by simp [getObj, Sem.run, h]
theorem r2_sound {kt : KT} {z : AV} {ok : Bool} {x y : Operand} {a b v : AV} {h : Hp} (hK : opK P o.op = .r2 kt z ok) (hO : opnds o.op = [x, y]) (hR : Rd val ρ h.get w) (ha : V val ρ a (e x)) (hb : V val ρ b (e y)) (hf : lookupF kt z ok h a b = some v) :
    ∃ u, (execOp e o).run P w = .ok (.value u) w ∧ V val ρ v u := by
  have hS := opK_shape (P := P) (op := o.op) (by rw [hK]; simp)
  rw [hK] at hS
  obtain ⟨dst, op, type, pos, after, guard⟩ := o
  simp only at hS hO hK
  clear hK
  cases hS with
  | lookup t x' i ok k el z n hm hz =>
    simp [opnds, Op.operands] at hO
    obtain ⟨rfl, rfl⟩ := hO
    obtain ⟨kid, hu, hk⟩ := map_spec hm
    obtain ⟨zv, hz1, _, _, _, hzV, _⟩ := zero_run (val := val) (ρ := ρ) hz w
    obtain ⟨es, hes, hf⟩ := orec_some hf
    obtain ⟨hko, hf⟩ := brec_true hf
    obtain ⟨f, hfind, hf⟩ := orec_some hf
    have hchk := fun em => checkKey_run hk hko hb em w
    have main : ∀ l : List MapEntry, Es val ρ es l → ∃ r u, (Instr.findKey kid (e i) l).run P w = .ok r w ∧ V val ρ v u ∧
        ((r = none ∧ u = if ok then .tuple #[zv, .bool false] else zv) ∨ ∃ j x, r = some (j, x) ∧ u = if ok then .tuple #[x, .bool true] else x) := by
      intro l hE
      obtain ⟨r, hr, hF⟩ := find_run hk hko hb hfind hE w
      cases f with
      | none =>
        have hr0 : r = none := hF
        subst hr0
        have hf : some (withOk ok z false) = some v := hf
        cases hf
        refine ⟨_, _, hr, ?_, .inl ⟨rfl, rfl⟩⟩
        cases ok
        · exact hzV
        · exact V_tup.2 ⟨_, rfl, Vs_cons hzV (Vs_cons (V_bool.2 rfl) Vs_nil)⟩
      | some q =>
        obtain ⟨x, hx, _, rfl, hV, _⟩ := hF
        have hf : some (withOk ok q.2.1 true) = some v := hf
        cases hf
        refine ⟨_, _, hr, ?_, .inr ⟨_, _, rfl, rfl⟩⟩
        cases ok
        · exact hV
        · exact V_tup.2 ⟨_, rfl, Vs_cons hV (Vs_cons (V_bool.2 rfl) Vs_nil)⟩
    rcases entries_sound hR hes ha with ⟨hx, rfl⟩ | ⟨r, arr, clock, hx, hbk, hE⟩
    · obtain ⟨r, u, hr, hu2, hru⟩ := main [] rfl
      refine ⟨u, ?_, hu2⟩
      rcases hru with ⟨rfl, rfl⟩ | ⟨j, x, rfl, rfl⟩ <;> simp [execOp, Instr.lookup, und_run hu, hx, hchk, hr, hz1]
    · obtain ⟨r, u, hr, hu2, hru⟩ := main arr.toList hE
      refine ⟨u, ?_, hu2⟩
      rcases hru with ⟨rfl, rfl⟩ | ⟨j, x, rfl, rfl⟩ <;> simp [execOp, Instr.lookup, und_run hu, hx, hchk, hr, hz1, getMap_run hbk]

theorem stamped_some {b : Nat} : ∀ {es : List Ent} {i : Nat} {q : Nat × AV × AV}, stamped b es i = some q → i ≤ q.1 ∧ es[q.1 - i]? = some (q.2.1, q.2.2, b) ∧ ∀ j, j < q.1 - i → ∀ x, es[j]? = some x → x.2.2 ≠ b
  | [], i, q, h => by cases h
  | x :: es, i, q, h => by
    have e : stamped b (x :: es) i = Bool.rec (stamped b es (Nat.succ i)) (some (i, x.1, x.2.1)) (Nat.beq x.2.2 b) := rfl
    rw [e] at h
    cases hb : Nat.beq x.2.2 b with
    | true =>
      rw [hb] at h
      cases h
      have := Nat.eq_of_beq_eq_true hb
      refine ⟨Nat.le_refl _, by simp [← this], fun j hj => by omega⟩
    | false =>
      rw [hb] at h
      obtain ⟨h1, h2, h3⟩ := stamped_some (es := es) h
      have hs : q.1 - i = (q.1 - (i + 1)) + 1 := by omega
      refine ⟨by omega, by rw [hs]; simpa using h2, ?_⟩
      intro j hj y hy
      cases j with
      | zero => simp at hy; subst hy; intro k; rw [k] at hb; simp at hb
      | succ j => exact h3 j (by omega) y (by simpa using hy)
theorem Es_find {b : Nat} {es : List Ent} {l : List MapEntry} {q : Nat × AV × AV} (hE : Es val ρ es l) (h : stamped b es 0 = some q) :
    ∃ y, l[q.1]? = some y ∧ V val ρ q.2.1 y.key ∧ V val ρ q.2.2 y.val ∧ y.born = b ∧ l.find? (fun e => e.born == b) = some y ∧ l.findIdx? (fun e => e.born == b) = some q.1 := by
  obtain ⟨_, h1, h2⟩ := stamped_some h
  simp at h1 h2
  obtain ⟨y, hy, k1, k2, k3⟩ := Es_get hE h1
  refine ⟨y, hy, k1, k2, k3, ?_, ?_⟩
  · rw [List.find?_eq_some_iff_getElem]
    refine ⟨by simp [k3], q.1, (List.getElem?_eq_some_iff.1 hy).1, (List.getElem?_eq_some_iff.1 hy).2, fun j hj => ?_⟩
    have hlt : j < es.length := by
      have := (List.getElem?_eq_some_iff.1 h1).1
      omega
    obtain ⟨z, hz, _, _, hz3⟩ := Es_get hE (List.getElem?_eq_getElem hlt)
    have hne := h2 j hj es[j].1 es[j].2.1 es[j].2.2 (List.getElem?_eq_getElem hlt)
    have hz' := (List.getElem?_eq_some_iff.1 hz).2
    rw [hz']
    simp [hz3, hne]
  · rw [List.findIdx?_eq_some_iff_getElem]
    refine ⟨(List.getElem?_eq_some_iff.1 hy).1, ?_, fun j hj => ?_⟩
    · rw [(List.getElem?_eq_some_iff.1 hy).2]; simp [k3]
    · have hlt : j < es.length := by
        have := (List.getElem?_eq_some_iff.1 h1).1
        omega
      obtain ⟨z, hz, _, _, hz3⟩ := Es_get hE (List.getElem?_eq_getElem hlt)
      have hne := h2 j hj es[j].1 es[j].2.1 es[j].2.2 (List.getElem?_eq_getElem hlt)
      have hz' := (List.getElem?_eq_some_iff.1 hz).2
      rw [hz']
      simp [hz3, hne]

theorem iterOf_sound {h : Hp} {x : AV} {i : Id × Mi} {u : Value} (hR : Rd val ρ h.get w) (hi : iterOf h x = some i) (hV : V val ρ x u) :
    ∃ L m', ρ i.1 = some L ∧ L.ro = false ∧ h.get i.1 = some (.mit i.2.m i.2.since i.2.seen i.2.last) ∧ u = .pointer (some ⟨L.blk, 0, none⟩) ∧ w.heap[L.blk]? = some (.mapIter m' i.2.since i.2.seen.toArray i.2.last) ∧ (i.2.m = none → m' = none) ∧
      (∀ r, i.2.m = some r → ∃ L', ρ r = some L' ∧ m' = some L'.blk) ∧ L.sh = 0 ∧ x = .ptr i.1 0 := by
  obtain ⟨p, hp, hi⟩ := orec_some hi
  obtain ⟨hz, hi⟩ := brec_true hi
  obtain ⟨j, hj, hi⟩ := orec_some hi
  cases hi
  rw [asPtr_some] at hp
  subst hp
  have hz := Nat.eq_of_beq_eq_true hz
  obtain ⟨L, hL, rfl⟩ := V_ptr.1 hV
  obtain ⟨L', hL', hro, hsh, m', h1, h2, h3⟩ := hR _ _ (mit_some hj)
  rw [hL] at hL'
  cases hL'
  exact ⟨L, m', hL, hro, mit_some hj, by rw [hsh, hz], h1, h2, h3, hsh, by rw [hz]⟩

theorem r1_sound {f : Fr1} {x : Operand} {a v : AV} {h : Hp} (hK : opK P o.op = .r1 f) (hO : opnds o.op = [x]) (hR : Rd val ρ h.get w) (ha : V val ρ a (e x)) (hf : runR1 f h a = some v) :
    ∃ u, (execOp e o).run P w = .ok (.value u) w ∧ V val ρ v u := by
  have hS := opK_shape (P := P) (op := o.op) (by rw [hK]; simp)
  rw [hK] at hS
  obtain ⟨dst, op, type, pos, after, guard⟩ := o
  have fin : ∀ s : Sem Value, Tells val ρ P s w v → ∃ u, (do pure (Next.value (← s)) : Sem Next).run P w = .ok (.value u) w ∧ V val ρ v u := by
    rintro s ⟨u, h, hV⟩
    exact ⟨u, by simp [h], hV⟩
  simp only at hS hO hK
  clear hK
  cases hS with
  | loadN t x' n ht =>
    simp [opnds, Op.operands] at hO
    subst hO
    refine fin _ ?_
    obtain ⟨p, hp, hf⟩ := orec_some hf
    obtain ⟨cs, hcs, hf⟩ := orec_some hf
    obtain ⟨l, hl, hf⟩ := orec_some hf
    cases hf
    rw [asPtr_some] at hp
    subst hp
    obtain ⟨L, hL, hx⟩ := V_ptr.1 ha
    obtain ⟨_, hc⟩ := row_cells hR hL hcs
    obtain ⟨us, h1, h2, _, h3⟩ := cut_cells (P := P) hc hl
    obtain ⟨ht1, ht2⟩ := pt_spec ht
    exact .mk (.agg us.toArray) (by simp [Instr.loadAt, hx, Instr.sureAddr, loadVar, agg_run ht1, sz_run ht2, h3]) (V_agg.2 ⟨_, rfl, h1⟩)
  | load1 t x' n ht =>
    simp [opnds, Op.operands] at hO
    subst hO
    refine fin _ ?_
    obtain ⟨p, hp, hf⟩ := orec_some hf
    obtain ⟨cs, hcs, hf1⟩ := orec_some hf
    rw [nth_eq] at hf1
    rw [asPtr_some] at hp
    subst hp
    obtain ⟨L, hL, hx⟩ := V_ptr.1 ha
    obtain ⟨_, hc⟩ := row_cells hR hL hcs
    obtain ⟨u, hu, hV⟩ := hc _ _ hf1
    obtain ⟨ht1, ht2⟩ := pt_spec ht
    exact .mk u (by simp [Instr.loadAt, hx, Instr.sureAddr, loadVar, agg_run ht1, hu]) hV
  | convR s d x' f hk =>
    simp [opnds, Op.operands] at hO
    subst hO
    refine fin _ ?_
    unfold convertK at hk
    split at hk
    · cases hk
    · cases hk
    · rename_i el hs hd
      obtain ⟨hbe, hk⟩ := bif_no hk (by simp)
      cases hk
      have hel : P.underlying el = some (.int .u8) := by
        unfold byteElem at hbe
        split at hbe
        · assumption
        · cases hbe
      rcases orec_or hf with ⟨_, hf⟩ | ⟨q, hq, hf⟩
      · obtain ⟨_, hn, hf⟩ := orec_some hf
        cases hf
        rw [nulIs_some hn] at ha
        obtain ⟨_, hx⟩ := V_nul.1 ha
        rw [hx]
        exact .mk (.string ByteArray.empty) (run_convert_bytes_nil w s el hs hel 0 0 d hd) (V_str.2 ⟨_, rfl, rfl, rfl⟩)
      · obtain ⟨hsz, hf⟩ := brec_true hf
        have hsz := Nat.eq_of_beq_eq_true hsz
        rw [asSlc_some] at hq
        rw [hq] at ha
        obtain ⟨L, ad, c, hL, hx, hlen, _, hcc⟩ := V_slc.1 ha
        rw [hx, ]
        cases hz : Nat.beq q.len 0 with
        | true =>
          rw [hz] at hf
          cases hf
          have hz := Nat.eq_of_beq_eq_true hz
          refine .mk (.string ByteArray.empty) ?_ (V_str.2 ⟨_, rfl, rfl, rfl⟩)
          rw [run_convert_bytes_string w s d el _ _ _ hs hel hd, run_bytesToString w ad q.len c [] (by rw [hz]; rfl)]
          rfl
        | false =>
          rw [hz] at hf
          obtain ⟨cs, hcs, hf⟩ := orec_some hf
          obtain ⟨l, hl, hf⟩ := orec_some hf
          obtain ⟨b, hb, hf⟩ := orec_some hf
          cases hf
          obtain ⟨_, hc⟩ := row_cells hR hL hcs
          obtain ⟨us, h1, h2, _, h3⟩ := cut_cells (P := P) hc hl
          obtain ⟨ns, rfl, hn⟩ := ofBytes_some hb h1
          rcases hcc with rfl | ⟨rfl, _⟩
          · have : q.len = 0 := by omega
            rw [this] at hz; cases hz
          · refine .mk (.string (strOfNums ns)) ?_ (V_str.2 ⟨_, rfl, ?_, ?_⟩)
            · rw [run_convert_bytes_string w s d el _ _ _ hs hel hd, run_bytesToString w _ _ c ns h3, foldl_push_bytes]
              simp [strOfNums, ByteArray.empty, ByteArray.emptyWithCapacity]
              rfl
            · rw [strOfNums_data]; simpa using h2
            · rw [strOfNums_data]; exact hn
    · have hk := (bif_no hk (by simp)).2; cases hk
    · cases hk
  | entry it =>
    simp [opnds, Op.operands] at hO
    subst hO
    refine fin _ ?_
    obtain ⟨i, hi, hf⟩ := orec_some hf
    obtain ⟨m, hm, hf⟩ := orec_some hf
    obtain ⟨p, hp, hf⟩ := orec_some hf
    obtain ⟨b, hb, hf⟩ := orec_some hf
    obtain ⟨hcl, hf⟩ := brec_true hf
    obtain ⟨q, hq, hf⟩ := orec_some hf
    cases hf
    obtain ⟨L, m', hL, _, _, hx, hit, _, hmm, _⟩ := iterOf_sound hR hi ha
    obtain ⟨L', hL', rfl⟩ := hmm m hm
    obtain ⟨K, hK, _, arr, hmb, hE⟩ := hR _ _ (mapX_some hp)
    rw [hL'] at hK
    cases hK
    obtain ⟨y, hy, k1, k2, k3, k4, _⟩ := Es_find hE hq
    have hcl := Nat.eq_of_beq_eq_true hcl
    refine .mk (.tuple #[y.key, y.val]) ?_ (V_tup.2 ⟨_, rfl, Vs_cons k1 (Vs_cons k2 Vs_nil)⟩)
    have hbk : i.2.seen.toArray.back? = some b := by simpa using hb
    have hgo : (getObj L.blk).run P w = .ok (.mapIter (some L'.blk) i.2.since i.2.seen.toArray i.2.last) w := by simp [getObj, Sem.run, hit]
    have hfind : arr.find? (fun e => e.born == b) = some y := by rw [← Array.find?_toList]; exact k4
    rw [hx]
    simp [Instr.entry, hgo, hbk, getMap_run hmb, hcl, hfind]
  | callR c b f hb hk =>
    obtain ⟨callee, args, argTypes⟩ := c
    simp only at hb
    subst hb
    simp only [opnds] at hO
    have hA : args = #[x] := by cases args; simp_all
    subst hA
    unfold builtinK at hk
    split at hk
    · rename_i t ht
      unfold lenK at hk
      split at hk <;> (try (cases hk; done))
      · rename_i km el hu
        cases hk
        obtain ⟨es, hes, hf⟩ := orec_some hf
        cases hf
        have ht' : argTypes[0]? = some t := by
          have : argTypes.toList[0]? = some t := by rw [ht]; rfl
          simpa using this
        rw [lenL_eq]
        have : (Builtin.len_ argTypes type #[e x]).run P w = .ok (goInt es.length) w := by
          rcases entries_sound hR hes ha with ⟨hx, rfl⟩ | ⟨r, arr, clock, hx, hbk, hE⟩
          · simp [Builtin.len_, ht', und_run hu, hx]
          · have := Es_len hE
            simp at this
            simp [Builtin.len_, ht', und_run hu, hx, getMap_run hbk, this]
        exact ⟨goInt es.length, by simp [execOp, resolve, invoke, builtin, this], V_num⟩
      · split at hk <;> cases hk
    · unfold appK at hk; (repeat' split at hk) <;> first | (cases hk; done) | (have hk := (bif_no hk (by simp)).2; cases hk)
    · cases hk
    · cases hk
    · split at hk <;> cases hk
    · (repeat' split at hk) <;> cases hk
    · cases hk
end
end
end Go.Ev
