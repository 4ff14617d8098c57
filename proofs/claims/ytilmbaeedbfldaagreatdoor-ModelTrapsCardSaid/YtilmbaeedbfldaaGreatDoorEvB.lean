/- Laws of the interpreter's small words. -/
import Derived.Test.YtilmbaeedbfldaaGreatDoorEvA
import Derived.IntWalk
set_option linter.unusedVariables false
set_option linter.unusedSimpArgs false
set_option linter.unusedSectionVars false
namespace Go.Ev

/-- A name's number. -/
def num : Id → Nat
  | [] => 0
  | b :: l => 2 * num l + (if b then 2 else 1)
@[simp] theorem num_nil : num [] = 0 := rfl
@[simp] theorem num_cons (b : Bool) (l : Id) : num (b :: l) = 2 * num l + (if b then 2 else 1) := rfl
theorem num_inj : ∀ {r s : Id}, num r = num s → r = s
  | [], [], _ => rfl
  | [], b :: l, h => by cases b <;> simp at h
  | b :: l, [], h => by cases b <;> simp at h
  | a :: r, b :: s, h => by
    cases a <;> cases b <;> simp at h
    · rw [num_inj (r := r) (s := s) (by omega)]
    · omega
    · omega
    · rw [num_inj (r := r) (s := s) (by omega)]
theorem inc_nil : inc [] = [false] := rfl
theorem inc_false (l : Id) : inc (false :: l) = true :: l := rfl
theorem inc_true (l : Id) : inc (true :: l) = false :: inc l := rfl
theorem num_inc : ∀ r : Id, num (inc r) = num r + 1
  | [] => rfl
  | false :: l => by rw [inc_false]; simp
  | true :: l => by rw [inc_true]; simp [num_inc l]; omega
theorem num_pth : ∀ n, num (pth n) = n
  | 0 => rfl
  | n + 1 => by show num (inc (pth n)) = _; rw [num_inc, num_pth n]
theorem pth_inj {a b : Nat} (h : pth a = pth b) : a = b := by rw [← num_pth a, h, num_pth]
theorem pth_num (r : Id) : pth (num r) = r := num_inj (num_pth _)
theorem num_incN : ∀ (n : Nat) (r : Id), num (incN n r) = num r + n
  | 0, _ => rfl
  | n + 1, r => by show num (inc (incN n r)) = _; rw [num_inc, num_incN n r]; omega

section
variable {α : Type}
theorem Tr.get_nil (k : Id) : (Tr.nil : Tr α).get k = none := rfl
theorem Tr.get_node_nil (v : Option α) (l r : Tr α) : (Tr.node v l r).get [] = v := rfl
theorem Tr.get_node_false (v : Option α) (l r : Tr α) (k : Id) : (Tr.node v l r).get (false :: k) = l.get k := rfl
theorem Tr.get_node_true (v : Option α) (l r : Tr α) (k : Id) : (Tr.node v l r).get (true :: k) = r.get k := rfl
theorem Tr.get_ins (x : Option α) : ∀ (k : Id) (t : Tr α) (k' : Id), (Tr.ins x k t).get k' = if k' = k then x else t.get k'
  | [], t, k' => by
    cases t <;> cases k' with
    | nil => simp [Tr.ins, Tr.get]
    | cons b k' => cases b <;> simp [Tr.ins, Tr.get]
  | false :: k, t, k' => by
    cases t with
    | nil =>
      show (Tr.node none (Tr.ins x k .nil) .nil).get k' = _
      cases k' with
      | nil => simp [Tr.get]
      | cons b k' => cases b with
        | false => rw [Tr.get_node_false, Tr.get_ins x k]; simp [Tr.get_nil]
        | true => rw [Tr.get_node_true]; simp [Tr.get_nil]
    | node v l r =>
      show (Tr.node v (Tr.ins x k l) r).get k' = _
      cases k' with
      | nil => simp [Tr.get]
      | cons b k' => cases b with
        | false => rw [Tr.get_node_false, Tr.get_ins x k, Tr.get_node_false]; simp
        | true => rw [Tr.get_node_true, Tr.get_node_true]; simp
  | true :: k, t, k' => by
    cases t with
    | nil =>
      show (Tr.node none .nil (Tr.ins x k .nil)).get k' = _
      cases k' with
      | nil => simp [Tr.get]
      | cons b k' => cases b with
        | true => rw [Tr.get_node_true, Tr.get_ins x k]; simp [Tr.get_nil]
        | false => rw [Tr.get_node_false]; simp [Tr.get_nil]
    | node v l r =>
      show (Tr.node v l (Tr.ins x k r)).get k' = _
      cases k' with
      | nil => simp [Tr.get]
      | cons b k' => cases b with
        | true => rw [Tr.get_node_true, Tr.get_ins x k, Tr.get_node_true]; simp
        | false => rw [Tr.get_node_false, Tr.get_node_false]; simp
theorem Tr.get_set (t : Tr α) (k : Id) (x : α) (k' : Id) : (t.set k x).get k' = if k' = k then some x else t.get k' := Tr.get_ins _ _ _ _
theorem Tr.get_del (t : Tr α) (k k' : Id) : (t.del k).get k' = if k' = k then none else t.get k' := Tr.get_ins _ _ _ _
theorem both_some {f : α → α → Bool} (hf : ∀ a b, f a b = true → a = b) {x y : Option α} {a : α} (h : both f x y = some a) : x = some a ∧ y = some a := by
  cases x with
  | none => simp [both] at h
  | some u => cases y with
    | none => simp [both] at h
    | some v =>
      simp only [both] at h
      cases hb : f u v with
      | false => simp [hb] at h
      | true => simp [hb] at h; subst h; rw [hf _ _ hb]; exact ⟨rfl, rfl⟩
theorem Tr.get_meet {f : α → α → Bool} (hf : ∀ a b, f a b = true → a = b) : ∀ (t u : Tr α) (k : Id) (a : α), (Tr.meet f t u).get k = some a → t.get k = some a ∧ u.get k = some a
  | .nil, u, k, a, h => by simp [Tr.meet, Tr.get] at h
  | .node v l r, .nil, k, a, h => by simp [Tr.meet, Tr.get] at h
  | .node v l r, .node w l' r', k, a, h => by
    have e : Tr.meet f (.node v l r) (.node w l' r') = .node (both f v w) (Tr.meet f l l') (Tr.meet f r r') := rfl
    rw [e] at h
    cases k with
    | nil => exact both_some hf h
    | cons b k => cases b with
      | false => exact Tr.get_meet hf l l' k a h
      | true => exact Tr.get_meet hf r r' k a h

theorem lenL_eq (l : List α) : lenL l = l.length := by induction l with
  | nil => rfl
  | cons a l ih => show Nat.succ (lenL l) = _; rw [ih]; rfl
theorem nth_eq : ∀ (l : List α) (n : Nat), nth l n = l[n]?
  | [], n => by simp [nth]
  | a :: l, 0 => rfl
  | a :: l, n + 1 => by show nth l n = _; rw [nth_eq l n]; simp
theorem takeL_some : ∀ {n : Nat} {l r : List α}, takeL n l = some r → n ≤ l.length ∧ r = l.take n
  | 0, l, r, h => by
    have e : takeL 0 l = some [] := rfl
    rw [e] at h
    cases h
    simp
  | n + 1, [], r, h => by simp [takeL] at h
  | n + 1, a :: l, r, h => by
    have e : takeL (n + 1) (a :: l) = Option.rec none (fun r => some (a :: r)) (takeL n l) := rfl
    rw [e] at h
    cases hr : takeL n l with
    | none => simp [hr] at h
    | some q => simp [hr] at h; obtain ⟨h1, h2⟩ := takeL_some hr; subst h h2; simp; exact h1
theorem dropL_eq : ∀ (l : List α) (n : Nat), dropL l n = l.drop n
  | [], n => by simp [dropL]
  | a :: l, 0 => rfl
  | a :: l, n + 1 => by show dropL l n = _; rw [dropL_eq l n]; simp
theorem cut_some {l r : List α} {o n : Nat} (h : cut l o n = some r) : (o + n ≤ l.length ∨ n = 0) ∧ r = (l.drop o).take n := by
  unfold cut at h
  rw [dropL_eq] at h
  obtain ⟨h1, h2⟩ := takeL_some h
  simp at h1
  exact ⟨by omega, h2⟩
theorem cut_get {l r : List α} {o n : Nat} (h : cut l o n = some r) : r.length = n ∧ ∀ i, i < n → r[i]? = l[o + i]? := by
  unfold cut at h
  rw [dropL_eq] at h
  obtain ⟨h1, h2⟩ := takeL_some h
  subst h2
  refine ⟨by rw [List.length_take]; omega, fun i hi => ?_⟩
  rw [List.getElem?_take, if_pos hi, List.getElem?_drop]
theorem cat_eq (l m : List α) : cat l m = l ++ m := by induction l with
  | nil => rfl
  | cons a l ih => show a :: cat l m = _; rw [ih]; rfl
theorem setNth_eq (x : α) : ∀ (l : List α) (n : Nat), setNth x l n = l.set n x
  | [], n => by simp [setNth]
  | a :: l, 0 => rfl
  | a :: l, n + 1 => by show a :: setNth x l n = _; rw [setNth_eq x l n]; rfl
theorem delNth_eq : ∀ (l : List α) (n : Nat), delNth l n = l.eraseIdx n
  | [], n => by simp [delNth]
  | a :: l, 0 => rfl
  | a :: l, n + 1 => by show a :: delNth l n = _; rw [delNth_eq l n]; rfl
end

theorem wr0_some : ∀ {xs l r : List AV}, wr0 xs l = some r → xs.length ≤ l.length ∧ r = xs ++ l.drop xs.length ∧ ∀ x ∈ xs, x.one = true
  | [], l, r, h => by simp [wr0] at h; simp [h]
  | x :: xs, [], r, h => by simp [wr0] at h
  | x :: xs, a :: l, r, h => by
    have e : wr0 (x :: xs) (a :: l) = Bool.rec none (Option.rec none (fun r => some (x :: r)) (wr0 xs l)) x.one := rfl
    rw [e] at h
    cases hx : x.one with
    | false => simp [hx] at h
    | true =>
      cases hr : wr0 xs l with
      | none => simp [hx, hr] at h
      | some q =>
        simp [hx, hr] at h
        obtain ⟨h1, h2, h3⟩ := wr0_some hr
        subst h h2
        refine ⟨by simpa using h1, by simp, ?_⟩
        intro y hy
        rcases List.mem_cons.1 hy with rfl | hy
        · exact hx
        · exact h3 y hy
theorem wr_some : ∀ {l : List AV} {o : Nat} {xs r : List AV}, wr l o xs = some r → (o + xs.length ≤ l.length) ∧ r = l.take o ++ xs ++ l.drop (o + xs.length) ∧ ∀ x ∈ xs, x.one = true
  | [], 0, xs, r, h => by
    have e : wr [] 0 xs = wr0 xs [] := rfl
    rw [e] at h
    obtain ⟨h1, h2, h3⟩ := wr0_some h
    exact ⟨by omega, by simpa using h2, h3⟩
  | [], o + 1, xs, r, h => by simp [wr] at h
  | a :: l, 0, xs, r, h => by
    have e : wr (a :: l) 0 xs = wr0 xs (a :: l) := rfl
    rw [e] at h
    obtain ⟨h1, h2, h3⟩ := wr0_some h
    exact ⟨by omega, by simpa using h2, h3⟩
  | a :: l, o + 1, xs, r, h => by
    have e : wr (a :: l) (o + 1) xs = Option.rec none (fun r => some (a :: r)) (wr l o xs) := rfl
    rw [e] at h
    cases hr : wr l o xs with
    | none => simp [hr] at h
    | some q =>
      simp [hr] at h
      obtain ⟨h1, h2, h3⟩ := wr_some hr
      subst h h2
      refine ⟨by simp; omega, ?_, h3⟩
      have : o + 1 + xs.length = (o + xs.length) + 1 := by omega
      rw [this]; simp
theorem wr_len {l xs r : List AV} {o : Nat} (h : wr l o xs = some r) : r.length = l.length := by
  obtain ⟨h1, h2, _⟩ := wr_some h
  subst h2; simp; omega
theorem wr_get {l xs r : List AV} {o : Nat} (h : wr l o xs = some r) (i : Nat) : r[i]? = if o ≤ i ∧ i < o + xs.length then xs[i - o]? else l[i]? := by
  obtain ⟨h1, h2, _⟩ := wr_some h
  subst h2
  rw [List.append_assoc]
  have hl : (l.take o).length = o := by simp; omega
  by_cases hi : i < o
  · rw [List.getElem?_append_left (by omega), if_neg (by omega), List.getElem?_take, if_pos hi]
  · rw [List.getElem?_append_right (by omega), hl]
    by_cases hj : i - o < xs.length
    · rw [List.getElem?_append_left hj, if_pos (by omega)]
    · rw [List.getElem?_append_right (by omega), if_neg (by omega), List.getElem?_drop]
      congr 1; omega

theorem kEq_iff (a b : IntKind) : kEq a b = true ↔ a = b := by cases a <;> cases b <;> decide
theorem iEq_iff (a b : Int) : iEq a b = true ↔ a = b := by
  cases a with
  | ofNat a => cases b with
    | ofNat b => simp [iEq]; omega
    | negSucc b => simp [iEq]
  | negSucc a => cases b with
    | ofNat b => simp [iEq]
    | negSucc b => simp [iEq]
theorem iEq_eq (a b : Int) : iEq a b = (a == b) := by
  rw [Bool.eq_iff_iff, iEq_iff]; simp
theorem iLt_eq (a b : Int) : iLt a b = decide (a < b) := by
  rw [Bool.eq_iff_iff]
  cases a with
  | ofNat a => cases b with
    | ofNat b => simp [iLt]
    | negSucc b => simp [iLt]; omega
  | negSucc a => cases b with
    | ofNat b => simp [iLt]; omega
    | negSucc b => simp [iLt]; omega
theorem bEq_iff (a b : Bool) : bEq a b = true ↔ a = b := by cases a <;> cases b <;> decide
theorem idEq_iff : ∀ r s : Id, idEq r s = true ↔ r = s
  | [], [] => by simp [idEq]
  | [], b :: s => by simp [idEq]
  | a :: r, [] => by simp [idEq]
  | a :: r, b :: s => by
    have e : idEq (a :: r) (b :: s) = Bool.rec (Bool.rec (idEq r s) false b) (Bool.rec false (idEq r s) b) a := rfl
    rw [e]
    cases a <;> cases b <;> simp [idEq_iff r s]
theorem idCmp_spec : ∀ r s : Id, (idCmp r s = 0 → num r ≤ num s) ∧ (idCmp r s = 1 → num r ≤ num s) ∧ (∀ k, idCmp r s = k + 2 → num s ≤ num r) ∧ (idCmp r s = 0 → num r < num s) ∧ (idCmp r s = 1 → num r = num s) ∧ (∀ k, idCmp r s = k + 2 → num s < num r)
  | [], [] => by simp [idCmp]
  | [], b :: s => by simp [idCmp]; cases b <;> simp
  | a :: r, [] => by simp [idCmp]; cases a <;> simp
  | a :: r, b :: s => by
    have e : idCmp (a :: r) (b :: s) = Nat.rec 0 (fun k _ => Nat.rec (Bool.rec (Bool.rec 1 0 b) (Bool.rec 2 1 b) a) (fun _ _ => 2) k) (idCmp r s) := rfl
    obtain ⟨_, _, _, h1, h2, h3⟩ := idCmp_spec r s
    rw [e]
    revert h1 h2 h3
    generalize idCmp r s = c
    intro h1 h2 h3
    have n0 : ∀ (x y : Nat), (0 : Nat) = x + 2 → False := fun x _ h => by omega
    rcases c with _ | _ | k
    · have := h1 rfl
      cases a <;> cases b <;> refine ⟨fun h => ?_, fun h => ?_, fun k h => ?_, fun h => ?_, fun h => ?_, fun k h => ?_⟩ <;> first | (cases h; done) | (simp only [num_cons]; simp; omega)
    · have := h2 rfl
      cases a <;> cases b <;> refine ⟨fun h => ?_, fun h => ?_, fun k h => ?_, fun h => ?_, fun h => ?_, fun k h => ?_⟩ <;> first | (cases h; done) | (simp only [num_cons]; simp; omega)
    · have := h3 k rfl
      cases a <;> cases b <;> refine ⟨fun h => ?_, fun h => ?_, fun k h => ?_, fun h => ?_, fun h => ?_, fun k h => ?_⟩ <;> first | (cases h; done) | (simp only [num_cons]; simp; omega)
theorem idMax_ge (r s : Id) : num r ≤ num (idMax r s) ∧ num s ≤ num (idMax r s) := by
  obtain ⟨h1, h2, h3, _⟩ := idCmp_spec r s
  unfold idMax
  revert h1 h2 h3
  generalize idCmp r s = c
  intro h1 h2 h3
  rcases c with _ | _ | k
  · exact ⟨h1 rfl, Nat.le_refl _⟩
  · exact ⟨h2 rfl, Nat.le_refl _⟩
  · exact ⟨Nat.le_refl _, h3 k rfl⟩
theorem wrap_nat (k : IntKind) (m : Nat) (h : m < half k) : k.wrap (m : Int) = m := by
  cases k <;> simp only [half] at h
  · exact IntWalk.i8_in _ (by omega)
  · exact IntWalk.i16_in _ (by omega)
  · exact IntWalk.i32_in _ (by omega)
  · exact IntWalk.i64_in _ (by omega)
  · exact IntWalk.u8_in _ (by omega)
  · exact IntWalk.u16_in _ (by omega)
  · exact IntWalk.u32_in _ (by omega)
  · exact IntWalk.u64_in _ (by omega)
theorem wrap_neg (k : IntKind) (m : Nat) (hs : k.signed = true) (h : m < half k) : k.wrap (Int.negSucc m) = Int.negSucc m := by
  cases k <;> simp [IntKind.signed] at hs <;> simp only [half] at h
  · exact IntWalk.i8_in _ (by omega)
  · exact IntWalk.i16_in _ (by omega)
  · exact IntWalk.i32_in _ (by omega)
  · exact IntWalk.i64_in _ (by omega)
theorem wrap_eq (k : IntKind) (n : Int) : wrap k n = k.wrap n := by
  cases n with
  | ofNat m =>
    show (Bool.rec (wrapS k (.ofNat m)) (.ofNat m) (Nat.blt m (half k)) : Int) = _
    cases h : Nat.blt m (half k) with
    | false => rfl
    | true => exact (wrap_nat k m (by simpa [Nat.blt_eq] using h)).symm
  | negSucc m =>
    show (Bool.rec (wrapS k (.negSucc m)) (Bool.rec (wrapS k (.negSucc m)) (.negSucc m) (Nat.blt m (half k))) k.signed : Int) = _
    cases hs : k.signed with
    | false => rfl
    | true =>
      cases h : Nat.blt m (half k) with
      | false => rfl
      | true => exact (wrap_neg k m hs (by simpa [Nat.blt_eq] using h)).symm

/-! What a value is. -/
section
variable {x : AV}
theorem asInt_some {p : IntKind × Int} : asInt x = some p ↔ x = .int p.1 p.2 := by cases x <;> simp [asInt, Prod.ext_iff] <;> first | (constructor <;> (rintro ⟨h1, h2⟩; simp_all)) | skip
theorem asBool_some {b : Bool} : asBool x = some b ↔ x = .bool b := by cases x <;> simp [asBool]
theorem asPtr_some {p : Id × Nat} : asPtr x = some p ↔ x = .ptr p.1 p.2 := by cases x <;> simp [asPtr, Prod.ext_iff]
theorem asStr_some {p : Nat × Nat} : asStr x = some p ↔ x = .str p.1 p.2 := by cases x <;> simp [asStr, Prod.ext_iff]
theorem asAgg_some {l : List AV} : asAgg x = some l ↔ x = .agg l := by cases x <;> simp [asAgg]
theorem asNul_some {k : Nat} : asNul x = some k ↔ x = .nul k := by cases x <;> simp [asNul]
theorem asMap_some {k : Id} : asMap x = some k ↔ x = .map k := by cases x <;> simp [asMap]
theorem asFn_some {p : Nat × List AV × List AV} : asFn x = some p ↔ x = .fn p.1 p.2.1 p.2.2 := by cases x <;> simp [asFn, Prod.ext_iff]
theorem asTup_some {l : List AV} : asTup x = some l ↔ x = .tup l := by cases x <;> simp [asTup]
theorem asSlc_some {s : Sl} : asSlc x = some s ↔ x = .slc s.r s.off s.len s.sz s.cap := by
  cases x <;> simp [asSlc]
  cases s; simp
theorem nat?_some {i : Int} {n : Nat} : nat? i = some n ↔ i = (n : Int) := by
  cases i with
  | ofNat m => simp [nat?]; omega
  | negSucc m => simp [nat?]
theorem asNat_some {n : Nat} : asNat x = some n ↔ ∃ k, x = .int k (n : Int) := by
  unfold asNat
  cases h : asInt x with
  | none =>
    simp
    intro k hk
    rw [hk] at h
    simp [asInt] at h
  | some p =>
    rw [asInt_some] at h
    subst h
    simp [nat?_some]
end
theorem isCoin_iff {x : AV} : isCoin x = true ↔ x = .coin := by cases x <;> simp [isCoin]
theorem one_false {x : AV} : x.one = false ↔ (∃ l, x = .agg l) ∨ ∃ l, x = .tup l := by cases x <;> simp [AV.one]
theorem cells_agg (l : List AV) : (AV.agg l).cells = l := rfl
theorem cells_else {x : AV} (h : ∀ l, x ≠ .agg l) : x.cells = [x] := by cases x <;> first | rfl | exact absurd rfl (h _)

/-! Equality that is surely so. -/
theorem optEq_iff {α : Type} {f : α → α → Bool} (hf : ∀ a b, f a b = true → a = b) {x y : Option α} (h : optEq f x y = true) : x = y := by
  cases x <;> cases y <;> simp [optEq] at h ⊢
  exact hf _ _ h
theorem allEq_eq {α : Type} {f : α → α → Bool} (hf : ∀ a b, f a b = true → a = b) : ∀ {l m : List α}, allEq f l m = true → l = m
  | [], [], _ => rfl
  | [], b :: m, h => by simp [allEq] at h
  | a :: l, [], h => by simp [allEq] at h
  | a :: l, b :: m, h => by
    have e : allEq f (a :: l) (b :: m) = Bool.rec false (allEq f l m) (f a b) := rfl
    rw [e] at h
    cases hb : f a b with
    | false => simp [hb] at h
    | true => simp [hb] at h; rw [hf _ _ hb, allEq_eq hf h]
theorem oneEq_eq {x y : AV} (h : oneEq x y = true) : x = y := by
  unfold oneEq at h
  split at h <;> simp_all [kEq_iff, iEq_iff, bEq_iff, idEq_iff]
  exact optEq_iff (fun a b => by simp) h.2
theorem avBeq_eq {x y : AV} (h : avBeq x y = true) : x = y := by
  unfold avBeq at h
  split at h
  · rw [allEq_eq (fun _ _ => oneEq_eq) h]
  · simp only [Bool.and_eq_true] at h
    obtain ⟨⟨h1, h2⟩, h3⟩ := h
    rw [Nat.eq_of_beq_eq_true h1, allEq_eq (fun _ _ => oneEq_eq) h2, allEq_eq (fun _ _ => oneEq_eq) h3]
  · rw [allEq_eq (fun _ _ => oneEq_eq) h]
  · exact oneEq_eq h
theorem entEq_eq {x y : Ent} (h : entEq x y = true) : x = y := by
  unfold entEq at h
  simp only [Bool.and_eq_true] at h
  obtain ⟨⟨h1, h2⟩, h3⟩ := h
  exact Prod.ext (avBeq_eq h1) (Prod.ext (avBeq_eq h2) (Nat.eq_of_beq_eq_true h3))
theorem obEq_eq {x y : Ob} (h : obEq x y = true) : x = y := by
  unfold obEq at h
  split at h
  · simp only [Bool.and_eq_true] at h
    rw [(bEq_iff _ _).1 h.1, allEq_eq (fun _ _ => avBeq_eq) h.2]
  · simp only [Bool.and_eq_true] at h
    rw [Nat.eq_of_beq_eq_true h.1, allEq_eq (fun _ _ => entEq_eq) h.2]
  · simp only [Bool.and_eq_true] at h
    obtain ⟨⟨⟨h1, h2⟩, h3⟩, h4⟩ := h
    rw [optEq_iff (fun a b => (idEq_iff a b).1) h1, Nat.eq_of_beq_eq_true h2, allEq_eq (fun a b => Nat.eq_of_beq_eq_true) h3, Nat.eq_of_beq_eq_true h4]
  · cases h

/-! Bytes as numbers. -/
@[simp] theorem enc_nil : enc [] = 0 := rfl
@[simp] theorem enc_cons (b : UInt8) (l : List UInt8) : enc (b :: l) = b.toNat + 256 * enc l := rfl
theorem byte_lt (b : UInt8) : b.toNat < 256 := b.toBitVec.isLt
theorem enc_append : ∀ l m : List UInt8, enc (l ++ m) = enc l + 256 ^ l.length * enc m
  | [], m => by simp
  | b :: l, m => by
    rw [List.cons_append, enc_cons, enc_cons, enc_append l m, List.length_cons, Nat.pow_succ]
    rw [Nat.mul_add, ← Nat.mul_assoc, Nat.mul_comm 256 (256 ^ l.length)]
    omega
theorem enc_drop : ∀ (k : Nat) (l : List UInt8), enc (l.drop k) = enc l / 256 ^ k
  | 0, l => by simp
  | k + 1, [] => by simp
  | k + 1, b :: l => by
    rw [List.drop_succ_cons, enc_drop k l, enc_cons, Nat.pow_succ, Nat.mul_comm (256 ^ k), ← Nat.div_div_eq_div_mul]
    congr 1
    have := byte_lt b
    omega
theorem enc_take : ∀ (k : Nat) (l : List UInt8), enc (l.take k) = enc l % 256 ^ k
  | 0, l => by simp [Nat.mod_one]
  | k + 1, [] => by simp
  | k + 1, b :: l => by
    rw [List.take_succ_cons, enc_cons, enc_take k l, enc_cons, Nat.pow_succ, Nat.mul_comm (256 ^ k)]
    have := byte_lt b
    rw [Nat.mod_mul, Nat.add_mul_div_left _ _ (by omega), Nat.div_eq_of_lt this]
    simp
theorem enc_inj : ∀ {l m : List UInt8}, l.length = m.length → enc l = enc m → l = m
  | [], [], _, _ => rfl
  | [], b :: m, h, _ => by simp at h
  | a :: l, [], h, _ => by simp at h
  | a :: l, b :: m, h, he => by
    simp at h he
    have ha := byte_lt a
    have hb := byte_lt b
    have h1 : a.toNat = b.toNat := by omega
    rw [UInt8.toNat_inj.1 h1, enc_inj h (by omega)]
theorem shift8 (n i : Nat) : Nat.shiftRight n (Nat.mul 8 i) = n / 256 ^ i := by
  show n >>> (8 * i) = _
  rw [Nat.shiftRight_eq_div_pow, Nat.pow_mul]
theorem byteAt_eq (l : List UInt8) (i : Nat) (h : i < l.length) : byteAt (enc l) i = l[i].toNat := by
  show Nat.shiftRight (enc l) (Nat.mul 8 i) % 256 = _
  rw [shift8, ← enc_drop, List.drop_eq_getElem_cons h, enc_cons]
  have := byte_lt l[i]
  omega
theorem sub_eq (l : List UInt8) (a b : Nat) : enc ((l.drop a).take (b - a)) = Nat.mod (Nat.shiftRight (enc l) (Nat.mul 8 a)) (Nat.pow 256 (Nat.sub b a)) := by
  rw [enc_take, enc_drop, shift8]; rfl
theorem sEq_iff (l m : List UInt8) : sEq (enc l) l.length (enc m) m.length = true ↔ l = m := by
  unfold sEq
  cases h : Nat.beq l.length m.length with
  | false =>
    simp
    intro e
    subst e
    simp at h
  | true =>
    have h' := Nat.eq_of_beq_eq_true h
    simp
    exact ⟨fun e => enc_inj h' e, fun e => by rw [e]⟩
theorem toBytes_eq : ∀ l : List UInt8, toBytes (enc l) l.length = l.map fun b => AV.int .u8 (b.toNat : Int)
  | [] => rfl
  | b :: l => by
    have e : toBytes (enc (b :: l)) (b :: l).length = .int .u8 (Int.ofNat (Nat.mod (enc (b :: l)) 256)) :: toBytes (Nat.div (enc (b :: l)) 256) l.length := rfl
    have hb := byte_lt b
    have h1 : Nat.mod (enc (b :: l)) 256 = b.toNat := by show (b.toNat + 256 * enc l) % 256 = _; omega
    have h2 : Nat.div (enc (b :: l)) 256 = enc l := by show (b.toNat + 256 * enc l) / 256 = _; omega
    rw [e, h1, h2, toBytes_eq l]; rfl
theorem sLt_eq : ∀ (l m : List UInt8), sLt l.length m.length (enc l) (enc m) = Op.bytesLess l m
  | [], [] => rfl
  | [], b :: m => rfl
  | a :: l, [] => rfl
  | a :: l, b :: m => by
    have e : sLt (a :: l).length (b :: m).length (enc (a :: l)) (enc (b :: m)) =
      Bool.rec (Bool.rec false (sLt l.length m.length (Nat.div (enc (a :: l)) 256) (Nat.div (enc (b :: m)) 256)) (Nat.beq (Nat.mod (enc (a :: l)) 256) (Nat.mod (enc (b :: m)) 256))) true (Nat.blt (Nat.mod (enc (a :: l)) 256) (Nat.mod (enc (b :: m)) 256)) := rfl
    have ha := byte_lt a
    have hb := byte_lt b
    have h1 : Nat.mod (enc (a :: l)) 256 = a.toNat := by show (a.toNat + 256 * enc l) % 256 = _; omega
    have h2 : Nat.div (enc (a :: l)) 256 = enc l := by show (a.toNat + 256 * enc l) / 256 = _; omega
    have h3 : Nat.mod (enc (b :: m)) 256 = b.toNat := by show (b.toNat + 256 * enc m) % 256 = _; omega
    have h4 : Nat.div (enc (b :: m)) 256 = enc m := by show (b.toNat + 256 * enc m) / 256 = _; omega
    rw [e, h1, h2, h3, h4, sLt_eq l m]
    have e' : Op.bytesLess (a :: l) (b :: m) = (decide (a < b) || (a == b && Op.bytesLess l m)) := by rw [Op.bytesLess]
    rw [e']
    by_cases h : a < b
    · have : Nat.blt a.toNat b.toNat = true := by rw [Nat.blt_eq]; exact UInt8.lt_iff_toNat_lt.1 h
      simp [this, h]
    · have h' : ¬ a.toNat < b.toNat := fun k => h (UInt8.lt_iff_toNat_lt.2 k)
      have : Nat.blt a.toNat b.toNat = false := by rw [← Bool.not_eq_true, Nat.blt_eq]; exact h'
      by_cases e : a = b
      · subst e; simp [this, h]
      · have ne : a.toNat ≠ b.toNat := fun k => e (UInt8.toNat_inj.1 k)
        have : Nat.beq a.toNat b.toNat = false := by
          rw [← Bool.not_eq_true]; intro k; exact ne (Nat.eq_of_beq_eq_true k)
        simp [*]
end Go.Ev
