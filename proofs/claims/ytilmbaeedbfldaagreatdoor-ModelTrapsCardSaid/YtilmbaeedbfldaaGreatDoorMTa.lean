/- 'ModelTraps' of droverlaw25: the walk, out of the runs. -/
import Derived.Test.YtilmbaeedbfldaaGreatDoorKLk
import Derived.Test.YtilmbaeedbfldaaGreatDoorKMm
import Derived.Test.YtilmbaeedbfldaaGreatDoorKSa
import Derived.Test.YtilmbaeedbfldaaGreatDoorKSb
import Derived.Test.YtilmbaeedbfldaaGreatDoorKAw
import Derived.Test.YtilmbaeedbfldaaGreatDoorKR0
import Derived.Test.YtilmbaeedbfldaaGreatDoorKR1
import Derived.Test.YtilmbaeedbfldaaGreatDoorKR2
import Derived.Test.YtilmbaeedbfldaaGreatDoorKR3
import Derived.Test.YtilmbaeedbfldaaGreatDoorKR4
import Derived.Test.YtilmbaeedbfldaaGreatDoorKR5
import Derived.Test.YtilmbaeedbfldaaGreatDoorCards
import Derived.Test.YtilmbaeedbfldaaGreatDoorTie
import Derived.ProofKit
import Derived.LaidMore
import Derived.OpenShut
import Derived.Stop.Joined
import Derived.SevenTiedAt
import Derived.Below
import Derived.Carry
set_option linter.unusedVariables false
set_option linter.unusedSimpArgs false
set_option linter.unusedSectionVars false
namespace Go.Proofs.YtilmbaeedbfldaaGreatDoor
open Go.ChangeShapes Go.WideShapes Go.ChangeAt Go.WideMaps Go.WideElems Go.RowKit
set_option maxRecDepth 1000000

theorem own : ownKnob Tryz.prog.godebug = none := by kernel_rfl
theorem ng : Ev.ngB Tryz.prog = true := by kernel_rfl
theorem xt : Ev.xtB Tryz.prog = true := by kernel_rfl
theorem mixed : Tryz.prog.follows .mixedOrders = true := by kernel_rfl
theorem gl : Tryz.prog.globals.size = 9 := by kernel_rfl
theorem gAscii : Tryz.prog.globalNamed "strings.asciiSpace" = some 1 := by kernel_rfl
theorem tAscii : (Tryz.prog.globals[1]?).map (·.type) = some 400 := by kernel_rfl

/-! The interpreter says what is so. -/
section
variable {ns : List (IntKind × Int)}
theorem call0 : Ev.CallOk Tryz.prog (Ev.valOf ns) (Ev.call Ev.noGam (Ev.fuOf Tryz.prog) Ev.noSum 1000000) := Ev.ev_sound mixed (Ev.valOf_one ns) Ev.noGam_ok (Ev.ngB_ok ng) (Ev.xtB_ok xt) Ev.noSum_ok _
theorem sum0_ok : Ev.SumOk Tryz.prog (Ev.valOf ns) T.sum0 := Ev.memo_ok call0 T.memo_run (by decide) (by rw [gl]; decide) (by kernel_rfl) (by kernel_rfl)
theorem callM : Ev.CallOk Tryz.prog (Ev.valOf ns) (Ev.call Ev.noGam (Ev.fuOf Tryz.prog) T.sum0 1000000) := Ev.ev_sound mixed (Ev.valOf_one ns) Ev.noGam_ok (Ev.ngB_ok ng) (Ev.xtB_ok xt) sum0_ok _
theorem snapA_ok : Ev.SumOk Tryz.prog (Ev.valOf ns) (Ev.snap 32 (Ev.pth 1) T.tab T.snapA) := Ev.snap_ok callM T.snapA_run (by decide) (by rw [gl]; decide) (by kernel_rfl) (by kernel_rfl)
theorem snapB_ok : Ev.SumOk Tryz.prog (Ev.valOf ns) (Ev.snap 32 (Ev.pth 1) T.tab T.snapB) := Ev.snap_ok callM T.snapB_run (by decide) (by rw [gl]; decide) (by kernel_rfl) (by kernel_rfl)
theorem callA : Ev.CallOk Tryz.prog (Ev.valOf ns) (Ev.call Ev.noGam (Ev.fuOf Tryz.prog) T.sumA 1000000) := Ev.ev_sound mixed (Ev.valOf_one ns) Ev.noGam_ok (Ev.ngB_ok ng) (Ev.xtB_ok xt) (Ev.orSum_ok sum0_ok snapB_ok) _
theorem awake_ok : Ev.SumOk Tryz.prog (Ev.valOf ns) (Ev.yes 14 (Ev.pth 1) T.tab) := Ev.yes_ok callA T.awake_run (by decide) (by rw [gl]; decide) (by kernel_rfl)
theorem lookA_ok : Ev.SumOk Tryz.prog (Ev.valOf ns) (Ev.look 108 (Ev.pth 1) T.tab T.lookA) := Ev.look_ok callM T.lookA_low T.lookA_run (by decide) (by rw [gl]; decide) (by kernel_rfl)
theorem sumT_ok : Ev.SumOk Tryz.prog (Ev.valOf ns) T.sumT := Ev.orSum_ok sum0_ok (Ev.orSum_ok snapA_ok (Ev.orSum_ok lookA_ok awake_ok))
theorem callT {l1 : List Ev.T1} {l2 : List Ev.T2} (h1 : Ev.Right1 ns l1) (h2 : Ev.Right2 ns l2) : Ev.CallOk Tryz.prog (Ev.valOf ns) (Ev.call (Ev.gamOf l1 l2) (Ev.fuOf Tryz.prog) T.sumT 1000000) :=
  Ev.ev_sound mixed (Ev.valOf_one ns) (Ev.gamOf_ok h1 h2) (Ev.ngB_ok ng) (Ev.xtB_ok xt) sumT_ok _
end

/-- The memory that a call begins in, as far as it matters. -/
theorem begins {W : World} (h : laidMetH Tryz.prog Rows.modelTrapsRow.laid W) : ∃ c ty f, W.heap[1]? = some (.cells c ty f) ∧ c.toList = T.spaces.map (Value.int .u8) :=
  Ev.laid_bytes (n := "strings.asciiSpace") (t := 400) (e := 5) (len := 256) (by kernel_rfl) h (by simp only [Rows.modelTrapsRow, List.mem_cons]; exact .inr (.inr (.inr (.inr (.inr (.inr (.inl rfl))))))) gAscii tAscii (by kernel_rfl) (by kernel_rfl) (by kernel_rfl) (by kernel_rfl)

theorem right6 {a n k : Int} (ha : Int.tmod a 6 = k) : Ev.Right2 [(.u8, a), (.i64, n)] (T.row6 k) := by
  intro t ht
  simp only [T.row6, List.mem_cons, List.not_mem_nil, or_false] at ht
  subst ht
  show some (Ev.AV.int .u8 (Int.tmod a 6)) = some (.int .u8 k)
  rw [ha]
theorem walk (a n : Int) (W : World) (ha : 0 ≤ a) (hL : laidMetH Tryz.prog Rows.modelTrapsRow.laid W) :
    Calls Tryz.prog 4 #[.int .u8 a, .int .i64 n] W fun e W' => e = .returned (.bool true) ∧ Below W.heap.size W W' := by
  obtain ⟨c, ty, f, hw, hc⟩ := begins hL
  have hR : ∀ ns, Ev.R (Ev.valOf ns) (Ev.rho0 Tryz.prog fun _ => c.size) T.base.get T.base.next W := fun ns => Ev.start_R (by rw [gl]; decide) (by rw [gl]; decide) hw hc
  have hb : Tryz.f4.body.isSome = true := by kernel_rfl
  have hn : (Tryz.f4.name == "runtime.NumGoroutine") = false := by kernel_rfl
  have go : ∀ (k : Int), Int.tmod a 6 = k → Ev.isT (Ev.call (Ev.gamOf [] (T.row6 k)) (Ev.fuOf Tryz.prog) T.sumT 1000000 4 [.opq 0, .opq 1] T.base) = true →
      Calls Tryz.prog 4 #[.int .u8 a, .int .i64 n] W fun e W' => e = .returned (.bool true) ∧ Below W.heap.size W W' := by
    intro k hk hrun
    refine Ev.law_walk (callT (fun t ht => by cases ht) (right6 (n := n) hk)) Tryz.func4 hb hn (Ev.rho0_gl _) ?_ (hR _) Ev.hp0_ro hrun
    exact Ev.Vs_cons (by simp [Ev.V, Ev.valOf]) (Ev.Vs_cons (by simp [Ev.V, Ev.valOf]) Ev.Vs_nil)
  have h6 : Int.tmod a 6 = a % 6 := Int.tmod_eq_emod_of_nonneg ha
  rcases (show a % 6 = 0 ∨ a % 6 = 1 ∨ a % 6 = 2 ∨ a % 6 = 3 ∨ a % 6 = 4 ∨ a % 6 = 5 by omega) with h | h | h | h | h | h <;> rw [← h6] at h
  · exact go 0 h T.run0
  · exact go 1 h T.run1
  · exact go 2 h T.run2
  · exact go 3 h T.run3
  · exact go 4 h T.run4
  · exact go 5 h T.run5
end Go.Proofs.YtilmbaeedbfldaaGreatDoor
