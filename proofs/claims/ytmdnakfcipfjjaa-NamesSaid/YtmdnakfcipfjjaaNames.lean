/-
  PROVED HERE: the law octavolaw.Names, called with no argument, in whatever memory, returns true, and leaves all that was there as it was. No condition.
  (num hands its number on; errors makes two lists of eighteen numbers and goes through them in one loop; Names asks errors and joins constants.)
-/
import Derived.Test.YtmdnakfcipfjjaaRows
import Derived.WalkKit
import Derived.ProofKit
import Derived.KernelRfl
namespace Go.Proofs.Ytmdnakfcipfjjaa
open Go.ChangeShapes Go.WideShapes Go.ChangeAt Go.RowKit

/-- The numbers that both lists hold. -/
def nums : List Int := [0, 1, 2, 3, 4, 5, 6, 7, 8, 9, 10, 11, 12, 13, 14, 15, 16, 17]

theorem nums_at (k : Nat) (h : k < 18) : ((nums.map (Value.int .i64)).toArray)[k]? = some (Value.int .i64 (k : Int)) := by
  match k, h with
  | 0, _ => rfl | 1, _ => rfl | 2, _ => rfl | 3, _ => rfl | 4, _ => rfl | 5, _ => rfl | 6, _ => rfl | 7, _ => rfl | 8, _ => rfl
  | 9, _ => rfl | 10, _ => rfl | 11, _ => rfl | 12, _ => rfl | 13, _ => rfl | 14, _ => rfl | 15, _ => rfl | 16, _ => rfl | 17, _ => rfl
  | k + 18, h => omega

theorem num_any (n : Int) (w : World) : Calls Try.prog 5 #[.int .i64 n] w fun e w' => e = .returned (.int .i64 n) ∧ w = w' := by
  go_enter Try.func5, Try.ntmps5
  go_wp2
  go_ret
  exact ⟨rfl, rfl⟩

/-- The world behind the two lists: block n holds the first, block n + 1 the second. -/
def made (w : World) (a b : TypeId) : World := (w.alloc (.cells (nums.map (Value.int .i64)).toArray a)).alloc (.cells (nums.map (Value.int .i64)).toArray b)

theorem made_below (w : World) (a b : TypeId) : Below w.heap.size w (made w a b) :=
  ((Below.refl _ _).alloc (Nat.le_refl _) _).alloc (by simp) _

theorem made_first (w : World) (a b : TypeId) (k : Nat) (h : k < 18) : (made w a b).cell? ⟨w.heap.size, k, none⟩ = some (.int .i64 (k : Int)) := by
  unfold made
  rw [World.cell?_alloc_past _ _ _ (by simp), World.cell?_alloc_new]
  exact nums_at k h

theorem made_second (w : World) (a b : TypeId) (k : Nat) (h : k < 18) : (made w a b).cell? ⟨w.heap.size + 1, k, none⟩ = some (.int .i64 (k : Int)) := by
  unfold made
  rw [World.cell?_alloc_at _ _ _ _ (by simp)]
  exact nums_at k h

set_option maxHeartbeats 400000 in
theorem errors_any (w : World) : Calls Try.prog 4 #[] w fun e w' => e = .returned (.bool true) ∧ Below w.heap.size w w' := by
  have hb := made_below w 23 3
  have hA := made_first w 23 3
  have hB := made_second w 23 3
  go_enter Try.func4, Try.ntmps4
  go_wp2_with fail
  change Code.wp _ _ _ _ (made w 23 3)
  generalize made w 23 3 = w1 at hb hA hB ⊢
  go_loop [3] (fun i => ∃ k : Nat, k ≤ 18 ∧ i = .int .i64 k) (fun i => 18 - (intOf i).toNat)
  case atStart => exact ⟨0, Nat.zero_le _, rfl⟩
  case round =>
    obtain ⟨k, hk, rfl⟩ := hrel
    by_cases hlt : k < 18
    · have h1 := hA k hlt
      have h2 := hB k hlt
      clear hA hB
      go_wp2_with (go_at_call 5; refine (num_any _ _).mono ?_; rintro e w' ⟨rfl, rfl⟩)
      go_round
      case rel => exact ⟨k + 1, by omega, by go_num⟩
      case measure => simp [intOf]; omega
    · go_wp2
      go_ret
      exact ⟨rfl, hb⟩

theorem names_any (w : World) : Calls Try.prog 3 #[] w fun e w' => e = .returned (.bool true) ∧ Below w.heap.size w w' := by
  go_enter Try.func3, Try.ntmps3
  go_wp2_with (go_at_call 4; refine (errors_any _).mono ?_; rintro e w' ⟨rfl, hb⟩)
  go_ret
  exact ⟨rfl, hb⟩

theorem names_own : ownKnob Try.prog.godebug = none := by kernel_rfl

set_option maxRecDepth 100000 in
theorem names_lifted (os : Os) (started : os.Started) (H : Type) (enc : TypeId × Value → H) :
    ReturnsInHanded {} Try.checked os 3 .any (Rows.namesSpec.pre6 enc Try.prog Try.f3 Rows.namesRow.domain false) (Rows.namesSpec.post enc Try.prog Try.f3 false true false false) := by
  refine returnsInHanded_of_change (C := Try.checked) names_own started (by kernel_rfl) Try.func3
    (ChangeSpec.witness6 (enc := enc) (C := Try.checked) false ⟨#[], #[], []⟩ 8 (by kernel_rfl) (by kernel_rfl) (by kernel_rfl) (by kernel_rfl)) ?_
  intro W base args ds gs before _ hW _ _
  have hW' := hW
  obtain ⟨p, q, hA0, hV, rfl, hfz, hnd⟩ := hW
  have hA : DataW.TrodAll enc Try.prog W 0 (fun _ => true) true Try.f3.params.toList args.toList ds p := hA0
  rw [Try.params3] at hA
  obtain ⟨rfl, rfl, rfl⟩ := trodAll_none hA
  obtain ⟨rfl, rfl⟩ := trodVars_none hV
  clear hA0
  refine (names_any W).mono fun e W' ⟨he, hb⟩ => ?_
  subst he
  exact ⟨_, rfl, _, _, _, [], [], [], hW', trodAll_mk1 (shut_bool Try.underlying4 _), trodAll_mk0, rfl, hb.frame _, fun h => by cases h⟩

/-- THE LAW. -/
theorem names_holds : Rows.NamesSaid :=
  OpenClaim.holds_of_wide 3 Try.f3 rfl rfl rfl rfl rfl rfl rfl ⟨rfl, rfl, rfl, rfl, rfl⟩ rfl rfl rfl rfl rfl (by kernel_rfl) Try.func3 (by kernel_rfl)
    (of_decide_eq_true (by kernel_rfl)) (by unfold Func.isWrapper; rw [if_neg (of_decide_eq_false (by kernel_rfl))]; exact ⟨rfl, rfl⟩)
    (fun os started H enc _ => names_lifted os started H enc)

#print axioms names_holds
end Go.Proofs.Ytmdnakfcipfjjaa
