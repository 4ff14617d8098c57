/- 'TierKinds' of droverlaw16: the walk, out of the runs. -/
import Derived.Test.YtgchblfkmgnaeaaGreatDoorKAr
import Derived.Test.YtgchblfkmgnaeaaGreatDoorKMm
import Derived.Test.YtgchblfkmgnaeaaGreatDoorKSa
import Derived.Test.YtgchblfkmgnaeaaGreatDoorKSb
import Derived.Test.YtgchblfkmgnaeaaGreatDoorKAw
import Derived.Test.YtgchblfkmgnaeaaGreatDoorKR0
import Derived.Test.YtgchblfkmgnaeaaGreatDoorKRm
import Derived.Test.YtgchblfkmgnaeaaGreatDoorKR1
import Derived.Test.YtgchblfkmgnaeaaGreatDoorKR2
import Derived.Test.YtgchblfkmgnaeaaGreatDoorKR3
import Derived.Test.YtgchblfkmgnaeaaGreatDoorKR4
import Derived.Test.YtgchblfkmgnaeaaGreatDoorCards
import Derived.Test.YtgchblfkmgnaeaaGreatDoorTie
import Derived.ProofKit
import Derived.LaidMore
import Derived.OpenShut
import Derived.Stop.Joined
import Derived.SevenTiedAt
import Derived.Below
import Derived.Carry
set_option linter.unusedVariables false
set_option linter.unusedSimpArgs false
set_option linter.unusedSectionVars false
namespace Go.Proofs.YtgchblfkmgnaeaaGreatDoor
open Go.ChangeShapes Go.WideShapes Go.ChangeAt Go.WideMaps Go.WideElems Go.RowKit
set_option maxRecDepth 1000000

theorem own : ownKnob Tryz.prog.godebug = none := by kernel_rfl
theorem ng : Ev.ngB Tryz.prog = true := by kernel_rfl
theorem xt : Ev.xtB Tryz.prog = true := by kernel_rfl
theorem mixed : Tryz.prog.follows .mixedOrders = true := by kernel_rfl
theorem gl : Tryz.prog.globals.size = 9 := by kernel_rfl
theorem gAscii : Tryz.prog.globalNamed "strings.asciiSpace" = some 1 := by kernel_rfl
theorem tAscii : (Tryz.prog.globals[1]?).map (·.type) = some 361 := by kernel_rfl

/-! The interpreter says what is so. -/
section
variable {ns : List (IntKind × Int)}
theorem call0 : Ev.CallOk Tryz.prog (Ev.valOf ns) (Ev.call Ev.noGam (Ev.fuOf Tryz.prog) Ev.noSum 1000000) := Ev.ev_sound mixed (Ev.valOf_one ns) Ev.noGam_ok (Ev.ngB_ok ng) (Ev.xtB_ok xt) Ev.noSum_ok _
theorem sum0_ok : Ev.SumOk Tryz.prog (Ev.valOf ns) T.sum0 := Ev.memo_ok call0 T.memo_run (by decide) (by rw [gl]; decide) (by kernel_rfl) (by kernel_rfl)
theorem callM : Ev.CallOk Tryz.prog (Ev.valOf ns) (Ev.call Ev.noGam (Ev.fuOf Tryz.prog) T.sum0 1000000) := Ev.ev_sound mixed (Ev.valOf_one ns) Ev.noGam_ok (Ev.ngB_ok ng) (Ev.xtB_ok xt) sum0_ok _
theorem snapA_ok : Ev.SumOk Tryz.prog (Ev.valOf ns) (Ev.snap 21 (Ev.pth 1) T.tab T.snapA) := Ev.snap_ok callM T.snapA_run (by decide) (by rw [gl]; decide) (by kernel_rfl) (by kernel_rfl)
theorem snapB_ok : Ev.SumOk Tryz.prog (Ev.valOf ns) (Ev.snap 21 (Ev.pth 1) T.tab T.snapB) := Ev.snap_ok callM T.snapB_run (by decide) (by rw [gl]; decide) (by kernel_rfl) (by kernel_rfl)
theorem callA : Ev.CallOk Tryz.prog (Ev.valOf ns) (Ev.call Ev.noGam (Ev.fuOf Tryz.prog) T.sumA 1000000) := Ev.ev_sound mixed (Ev.valOf_one ns) Ev.noGam_ok (Ev.ngB_ok ng) (Ev.xtB_ok xt) (Ev.orSum_ok sum0_ok snapB_ok) _
theorem awake_ok : Ev.SumOk Tryz.prog (Ev.valOf ns) (Ev.yes 11 (Ev.pth 1) T.tab) := Ev.yes_ok callA T.awake_run (by decide) (by rw [gl]; decide) (by kernel_rfl)
theorem sumT_ok : Ev.SumOk Tryz.prog (Ev.valOf ns) T.sumT := Ev.orSum_ok sum0_ok (Ev.orSum_ok snapA_ok awake_ok)
theorem callT {l1 : List Ev.T1} {l2 : List Ev.T2} (h1 : Ev.Right1 ns l1) (h2 : Ev.Right2 ns l2) : Ev.CallOk Tryz.prog (Ev.valOf ns) (Ev.call (Ev.gamOf l1 l2) (Ev.fuOf Tryz.prog) T.sumT 1000000) :=
  Ev.ev_sound mixed (Ev.valOf_one ns) (Ev.gamOf_ok h1 h2) (Ev.ngB_ok ng) (Ev.xtB_ok xt) sumT_ok _
end

/-- The memory that a call begins in, as far as it matters. -/
theorem begins {W : World} (h : laidMetH Tryz.prog Rows.tierKindsRow.laid W) : ∃ c ty f, W.heap[1]? = some (.cells c ty f) ∧ c.toList = T.spaces.map (Value.int .u8) :=
  Ev.laid_bytes (n := "strings.asciiSpace") (t := 361) (e := 5) (len := 256) (by kernel_rfl) h (by simp only [Rows.tierKindsRow, List.mem_cons]; exact .inr (.inr (.inr (.inr (.inr (.inr (.inl rfl))))))) gAscii tAscii (by kernel_rfl) (by kernel_rfl) (by kernel_rfl) (by kernel_rfl)

theorem walk (a n : Int) (W : World) (ha : 0 ≤ a) (h1 : -9223372036854775808 ≤ n) (h2 : n ≤ 9223372036854775807) (hL : laidMetH Tryz.prog Rows.tierKindsRow.laid W) :
    Calls Tryz.prog 7 #[.int .u8 a, .int .i64 n] W fun e W' => e = .returned (.bool true) ∧ Below W.heap.size W W' := by
  obtain ⟨c, ty, f, hw, hc⟩ := begins hL
  have hR : ∀ ns, Ev.R (Ev.valOf ns) (Ev.rho0 Tryz.prog fun _ => c.size) T.base.get T.base.next W := fun ns => Ev.start_R (by rw [gl]; decide) (by rw [gl]; decide) hw hc
  have hb : Tryz.f7.body.isSome = true := by kernel_rfl
  have hn : (Tryz.f7.name == "runtime.NumGoroutine") = false := by kernel_rfl
  have go : ∀ (k : Int) (l2 : List Ev.T2) (x : Ev.AV), Ev.Right2 (T.nums a n) l2 → Ev.V (Ev.valOf (T.nums a n)) (Ev.rho0 Tryz.prog fun _ => c.size) x (.int .i64 n) → Ev.isT (Ev.call (Ev.gamOf [] l2) (Ev.fuOf Tryz.prog) T.sumT 1000000 7 [.opq 0, x] T.base) = true →
      Calls Tryz.prog 7 #[.int .u8 a, .int .i64 n] W fun e W' => e = .returned (.bool true) ∧ Below W.heap.size W W' := by
    intro k l2 x hr hx hrun
    refine Ev.law_walk (callT (fun t ht => by cases ht) hr) Tryz.func7 hb hn (Ev.rho0_gl _) ?_ (hR _) Ev.hp0_ro hrun
    exact Ev.Vs_cons (by simp [Ev.V, Ev.valOf, T.nums]) (Ev.Vs_cons hx Ev.Vs_nil)
  have hopq : Ev.V (Ev.valOf (T.nums a n)) (Ev.rho0 Tryz.prog fun _ => c.size) (.opq 1) (.int .i64 n) := by simp [Ev.V, Ev.valOf, T.nums]
  have h5 : Int.tmod a 5 = a % 5 := Int.tmod_eq_emod_of_nonneg ha
  rcases (show a % 5 = 0 ∨ a % 5 = 1 ∨ a % 5 = 2 ∨ a % 5 = 3 ∨ a % 5 = 4 by omega) with h | h | h | h | h <;> rw [← h5] at h
  · by_cases hmax : n = 9223372036854775807
    · exact go 0 _ (T.i64 9223372036854775807) (T.right5 h) (by rw [hmax]; simp [T.i64, Ev.V]) T.runm
    · exact go 0 _ _ (T.right0 h h1 (by omega)) hopq T.run0
  · exact go 1 _ _ (T.right5 h) hopq T.run1
  · exact go 2 _ _ (T.right5 h) hopq T.run2
  · exact go 3 _ _ (T.right5 h) hopq T.run3
  · exact go 4 _ _ (T.right5 h) hopq T.run4

end Go.Proofs.YtgchblfkmgnaeaaGreatDoor
