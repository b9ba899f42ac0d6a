/- tree.ownOk and tree.nodeOk: whether mode and owners, and a new node, may be. No conditions. -/
import Derived.Test.YtccfimgpbmkpiaaFsA
import Derived.Deep.Light
import Derived.Deep.QuietTactic
import Derived.BigQuiet
import Derived.Outline
namespace Go.Proofs.Ytccfimgpbmkpiaa
set_option linter.unusedVariables false
set_option linter.unusedSimpArgs false
set_option maxRecDepth 100000
open Go.RowKit Go.MapKept

/-- A number is 0 to some. -/
def inB (v m : Int) : Bool := decide (0 ≤ v ∧ v ≤ m)

theorem ownIn_any (v m : Int) (w : World) : Calls Try.prog 76 #[.int .i64 v, .int .i64 m] w fun e w' => e = .returned (.bool (inB v m)) ∧ w = w' := by
  unfold inB
  by_cases h1 : 0 ≤ v
  · by_cases h2 : v ≤ m
    · go_enter Try.func76, Try.ntmps76
      go_wp2
      go_ret
      exact ⟨ret_bool (by simp; omega), rfl⟩
    · go_enter Try.func76, Try.ntmps76
      go_wp2
      go_ret
      exact ⟨ret_bool (by simp; omega), rfl⟩
  · go_enter Try.func76, Try.ntmps76
    go_wp2
    go_ret
    exact ⟨ret_bool (by simp; omega), rfl⟩

/-- ownOk. -/
def ownB (m u g : Int) : Bool := inB m 4095 && inB u 2147483647 && inB g 2147483647

set_option maxHeartbeats 1000000 in
theorem ownOk_any (k m u g t : Int) (tg : ByteArray) (ma mi sz li ch : Int) (w : World) :
    Calls Try.prog 53 #[.agg #[.int .i64 k, .int .i64 m, .int .i64 u, .int .i64 g, .int .i64 t, .string tg, .int .i64 ma, .int .i64 mi, .int .i64 sz, .int .i64 li, .int .i64 ch]] w fun e w' =>
      e = .returned (.bool (ownB m u g)) ∧ Below w.heap.size w w' := by
  unfold ownB
  go_enter Try.func53, Try.ntmps53
  go_wp2_with (go_at_call 76; refine (ownIn_any _ _ _).mono ?_; rintro e w' ⟨rfl, rfl⟩)
  all_goals (go_ret; exact ⟨ret_bool (by simp [*]), (Below.refl _ _).alloc (Nat.le_refl _) _⟩)

/-- nodeOk. -/
def bareOk (sz li ch : Int) : Bool := sz == 0 && li == 0 && ch == 0
def nodeB (k m u g : Int) (tg : ByteArray) (ma mi sz li ch : Int) : Bool :=
  if k = 1 ∨ k = 6 ∨ k = 7 then tg.toList.isEmpty && ma == 0 && mi == 0 && bareOk sz li ch && ownB m u g
  else if k = 3 then !tg.toList.isEmpty && decide (tg.size ≤ 1024) && decide (Lib.indexByte tg.data.toList 0 < 0) && (ma == 0 && mi == 0) && bareOk sz li ch && ownB m u g
  else if k = 4 ∨ k = 5 then inB ma 1048575 && inB mi 1048575 && tg.toList.isEmpty && bareOk sz li ch && ownB m u g
  else false

theorem below2d {w w1 : World} (o1 o2 : Obj) (h : Below ((w.alloc o1).alloc o2).drew.heap.size ((w.alloc o1).alloc o2).drew w1) : Below w.heap.size w w1 :=
  (((Below.refl _ w).alloc (Nat.le_refl _) o1).alloc (by simp) o2).drew.trans (h.mono (by simp; omega))
theorem below2 {w w1 : World} (o1 o2 : Obj) (h : Below ((w.alloc o1).alloc o2).heap.size ((w.alloc o1).alloc o2) w1) : Below w.heap.size w w1 :=
  (((Below.refl _ w).alloc (Nat.le_refl _) o1).alloc (by simp) o2).trans (h.mono (by simp; omega))

set_option maxHeartbeats 2000000 in
theorem nodeOk_1 (k m u g t : Int) (tg : ByteArray) (ma mi sz li ch : Int) (w : World) (h1 : (k == 1) = true) :
    Calls Try.prog 27 #[.agg #[.int .i64 k, .int .i64 m, .int .i64 u, .int .i64 g, .int .i64 t, .string tg, .int .i64 ma, .int .i64 mi, .int .i64 sz, .int .i64 li, .int .i64 ch]] w fun e w' =>
      e = .returned (.bool (tg.toList.isEmpty && ma == 0 && mi == 0 && bareOk sz li ch && ownB m u g)) ∧ Below w.heap.size w w' := by
  unfold bareOk
  go_enter Try.func27, Try.ntmps27
  go_wp2_with (first | (go_at_call 53; refine (ownOk_any _ _ _ _ _ _ _ _ _ _ _ _).mono ?_; rintro e w1 ⟨rfl, hb1⟩) | (go_at_call 52; refine (indexByte_any _ _ _).mono ?_; rintro e w' ⟨rfl, rfl⟩))
  all_goals go_light
  all_goals (go_ret; refine ⟨ret_bool (by simp [*]), ?_⟩)
  all_goals (first | exact below2 _ _ hb1 | exact ((Below.refl _ _).alloc (Nat.le_refl _) _).alloc (by simp) _)

set_option maxHeartbeats 2000000 in
theorem nodeOk_6 (k m u g t : Int) (tg : ByteArray) (ma mi sz li ch : Int) (w : World) (h1 : (k == 1) = false) (h6 : (k == 6) = true) :
    Calls Try.prog 27 #[.agg #[.int .i64 k, .int .i64 m, .int .i64 u, .int .i64 g, .int .i64 t, .string tg, .int .i64 ma, .int .i64 mi, .int .i64 sz, .int .i64 li, .int .i64 ch]] w fun e w' =>
      e = .returned (.bool (tg.toList.isEmpty && ma == 0 && mi == 0 && bareOk sz li ch && ownB m u g)) ∧ Below w.heap.size w w' := by
  unfold bareOk
  go_enter Try.func27, Try.ntmps27
  go_wp2_with (first | (go_at_call 53; refine (ownOk_any _ _ _ _ _ _ _ _ _ _ _ _).mono ?_; rintro e w1 ⟨rfl, hb1⟩) | (go_at_call 52; refine (indexByte_any _ _ _).mono ?_; rintro e w' ⟨rfl, rfl⟩))
  all_goals go_light
  all_goals (go_ret; refine ⟨ret_bool (by simp [*]), ?_⟩)
  all_goals (first | exact below2 _ _ hb1 | exact ((Below.refl _ _).alloc (Nat.le_refl _) _).alloc (by simp) _)

set_option maxHeartbeats 2000000 in
theorem nodeOk_7 (k m u g t : Int) (tg : ByteArray) (ma mi sz li ch : Int) (w : World) (h1 : (k == 1) = false) (h6 : (k == 6) = false) (h7 : (k == 7) = true) :
    Calls Try.prog 27 #[.agg #[.int .i64 k, .int .i64 m, .int .i64 u, .int .i64 g, .int .i64 t, .string tg, .int .i64 ma, .int .i64 mi, .int .i64 sz, .int .i64 li, .int .i64 ch]] w fun e w' =>
      e = .returned (.bool (tg.toList.isEmpty && ma == 0 && mi == 0 && bareOk sz li ch && ownB m u g)) ∧ Below w.heap.size w w' := by
  unfold bareOk
  go_enter Try.func27, Try.ntmps27
  go_wp2_with (first | (go_at_call 53; refine (ownOk_any _ _ _ _ _ _ _ _ _ _ _ _).mono ?_; rintro e w1 ⟨rfl, hb1⟩) | (go_at_call 52; refine (indexByte_any _ _ _).mono ?_; rintro e w' ⟨rfl, rfl⟩))
  all_goals go_light
  all_goals (go_ret; refine ⟨ret_bool (by simp [*]), ?_⟩)
  all_goals (first | exact below2 _ _ hb1 | exact ((Below.refl _ _).alloc (Nat.le_refl _) _).alloc (by simp) _)

set_option maxHeartbeats 2000000 in
theorem nodeOk_x (k m u g t : Int) (tg : ByteArray) (ma mi sz li ch : Int) (w : World) (h1 : (k == 1) = false) (h6 : (k == 6) = false) (h7 : (k == 7) = false) (h3 : (k == 3) = false) (h4 : (k == 4) = false) (h5 : (k == 5) = false) :
    Calls Try.prog 27 #[.agg #[.int .i64 k, .int .i64 m, .int .i64 u, .int .i64 g, .int .i64 t, .string tg, .int .i64 ma, .int .i64 mi, .int .i64 sz, .int .i64 li, .int .i64 ch]] w fun e w' =>
      e = .returned (.bool (false)) ∧ Below w.heap.size w w' := by
  go_enter Try.func27, Try.ntmps27
  go_wp2_with (first | (go_at_call 53; refine (ownOk_any _ _ _ _ _ _ _ _ _ _ _ _).mono ?_; rintro e w1 ⟨rfl, hb1⟩) | (go_at_call 52; refine (indexByte_any _ _ _).mono ?_; rintro e w' ⟨rfl, rfl⟩))
  all_goals go_light
  all_goals (go_ret; refine ⟨ret_bool (by simp [*]), ?_⟩)
  all_goals (first | exact below2 _ _ hb1 | exact ((Below.refl _ _).alloc (Nat.le_refl _) _).alloc (by simp) _)


set_option maxHeartbeats 4000000 in
theorem nodeOk_3 (k m u g t : Int) (tg : ByteArray) (ma mi sz li ch : Int) (w : World) (h1 : (k == 1) = false) (h6 : (k == 6) = false) (h7 : (k == 7) = false) (h3 : (k == 3) = true) :
    Calls Try.prog 27 #[.agg #[.int .i64 k, .int .i64 m, .int .i64 u, .int .i64 g, .int .i64 t, .string tg, .int .i64 ma, .int .i64 mi, .int .i64 sz, .int .i64 li, .int .i64 ch]] w fun e w' =>
      e = .returned (.bool (!tg.toList.isEmpty && decide (tg.size ≤ 1024) && decide (Lib.indexByte tg.data.toList 0 < 0) && (ma == 0 && mi == 0) && bareOk sz li ch && ownB m u g)) ∧ Below w.heap.size w w' := by
  unfold bareOk
  go_enter Try.func27, Try.ntmps27
  go_wp2_with (first | (go_at_call 53; refine (ownOk_any _ _ _ _ _ _ _ _ _ _ _ _).mono ?_; rintro e w1 ⟨rfl, hb1⟩) | (go_at_call 52; refine (indexByte_any _ _ _).mono ?_; rintro e w' ⟨rfl, rfl⟩))
  all_goals go_light
  all_goals (go_ret; refine ⟨ret_bool ?_, ?_⟩)
  all_goals (first | exact below2 _ _ hb1 | exact ((Below.refl _ _).alloc (Nat.le_refl _) _).alloc (by simp) _ | (simp_all; done) | (simp_all; intros; omega) | (simp_all; omega))

set_option maxHeartbeats 8000000 in
theorem nodeOk_4 (k m u g t : Int) (tg : ByteArray) (ma mi sz li ch : Int) (w : World) (h1 : (k == 1) = false) (h6 : (k == 6) = false) (h7 : (k == 7) = false) (h3 : (k == 3) = false) (h4 : (k == 4) = true) :
    Calls Try.prog 27 #[.agg #[.int .i64 k, .int .i64 m, .int .i64 u, .int .i64 g, .int .i64 t, .string tg, .int .i64 ma, .int .i64 mi, .int .i64 sz, .int .i64 li, .int .i64 ch]] w fun e w' =>
      e = .returned (.bool (inB ma 1048575 && inB mi 1048575 && tg.toList.isEmpty && bareOk sz li ch && ownB m u g)) ∧ Below w.heap.size w w' := by
  unfold bareOk inB
  go_enter Try.func27, Try.ntmps27
  go_wp2_with fail
  go_region
  all_goals go_wp2_with (first | (go_at_call 53; refine (ownOk_any _ _ _ _ _ _ _ _ _ _ _ _).mono ?_; rintro e w1 ⟨rfl, hb1⟩))
  all_goals go_light
  all_goals (go_ret; refine ⟨ret_bool ?_, ?_⟩)
  all_goals (first | exact below2d _ _ hb1 | exact (((Below.refl _ _).alloc (Nat.le_refl _) _).alloc (by simp) _).drew | (simp_all; done) | (simp_all; intros; omega) | (simp_all; omega))

set_option maxHeartbeats 8000000 in
theorem nodeOk_5 (k m u g t : Int) (tg : ByteArray) (ma mi sz li ch : Int) (w : World) (h1 : (k == 1) = false) (h6 : (k == 6) = false) (h7 : (k == 7) = false) (h3 : (k == 3) = false) (h4 : (k == 4) = false) (h5 : (k == 5) = true) :
    Calls Try.prog 27 #[.agg #[.int .i64 k, .int .i64 m, .int .i64 u, .int .i64 g, .int .i64 t, .string tg, .int .i64 ma, .int .i64 mi, .int .i64 sz, .int .i64 li, .int .i64 ch]] w fun e w' =>
      e = .returned (.bool (inB ma 1048575 && inB mi 1048575 && tg.toList.isEmpty && bareOk sz li ch && ownB m u g)) ∧ Below w.heap.size w w' := by
  unfold bareOk inB
  go_enter Try.func27, Try.ntmps27
  go_wp2_with fail
  go_region
  all_goals go_wp2_with (first | (go_at_call 53; refine (ownOk_any _ _ _ _ _ _ _ _ _ _ _ _).mono ?_; rintro e w1 ⟨rfl, hb1⟩))
  all_goals go_light
  all_goals (go_ret; refine ⟨ret_bool ?_, ?_⟩)
  all_goals (first | exact below2d _ _ hb1 | exact (((Below.refl _ _).alloc (Nat.le_refl _) _).alloc (by simp) _).drew | (simp_all; done) | (simp_all; intros; omega) | (simp_all; omega))

theorem nodeOk_any (k m u g t : Int) (tg : ByteArray) (ma mi sz li ch : Int) (w : World) :
    Calls Try.prog 27 #[.agg #[.int .i64 k, .int .i64 m, .int .i64 u, .int .i64 g, .int .i64 t, .string tg, .int .i64 ma, .int .i64 mi, .int .i64 sz, .int .i64 li, .int .i64 ch]] w fun e w' => e = .returned (.bool (nodeB k m u g tg ma mi sz li ch)) ∧ Below w.heap.size w w' := by
  unfold nodeB
  by_cases h1 : k = 1
  · simpa [h1] using nodeOk_1 k m u g t tg ma mi sz li ch w (by simp [h1])
  by_cases h6 : k = 6
  · simpa [h6] using nodeOk_6 k m u g t tg ma mi sz li ch w (by simp [h6]) (by simp [h6])
  by_cases h7 : k = 7
  · simpa [h7] using nodeOk_7 k m u g t tg ma mi sz li ch w (by simp [h7]) (by simp [h7]) (by simp [h7])
  by_cases h3 : k = 3
  · simpa [h3] using nodeOk_3 k m u g t tg ma mi sz li ch w (by simp [h3]) (by simp [h3]) (by simp [h3]) (by simp [h3])
  by_cases h4 : k = 4
  · simpa [h4] using nodeOk_4 k m u g t tg ma mi sz li ch w (by simp [h4]) (by simp [h4]) (by simp [h4]) (by simp [h4]) (by simp [h4])
  by_cases h5 : k = 5
  · simpa [h5] using nodeOk_5 k m u g t tg ma mi sz li ch w (by simp [h5]) (by simp [h5]) (by simp [h5]) (by simp [h5]) (by simp [h5]) (by simp [h5])
  rw [if_neg (by simp [h1, h6, h7]), if_neg h3, if_neg (by simp [h4, h5])]
  exact nodeOk_x k m u g t tg ma mi sz li ch w (by simp [h1]) (by simp [h6]) (by simp [h7]) (by simp [h3]) (by simp [h4]) (by simp [h5])
end Go.Proofs.Ytccfimgpbmkpiaa
