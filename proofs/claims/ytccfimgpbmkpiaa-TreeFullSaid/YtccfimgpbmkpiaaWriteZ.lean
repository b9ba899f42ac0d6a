/- (*tree.FS).Write of no bytes, and where it ends in an error ahead of the pieces. No conditions. -/
import Derived.Test.YtccfimgpbmkpiaaWrite
namespace Go.Proofs.Ytccfimgpbmkpiaa
set_option linter.unusedVariables false
set_option linter.unusedSimpArgs false
set_option maxRecDepth 100000
open Go.RowKit Go.MapKept

/-- No bytes: nothing turns. -/
theorem write_zero {w : World} {A : FSA} (h : FSAt w A) {ino : Int} {r : NodeR} (hr : A.node? ino = some r) (hk : r.n.kind = 1) (at_ : Int) (B : Option Addr) (bc : Nat) (ha0 : 0 ≤ at_) (ha1 : at_ ≤ 1099511627776) :
    Calls Try.prog 15 #[A.fp, .int .i64 ino, .int .i64 at_, .slice B 0 bc] w fun e w' => e = .returned (.int .i64 0) ∧ w = w' := by
  have cF := file_ok h hr hk
  unfold FSA.fp at *
  have hw1 : IntKind.i64.wrap (1099511627776 - at_) = 1099511627776 - at_ := IntWalk.i64_in _ (by omega)
  have h2 : ¬ (1099511627776 - at_ < 0) := by omega
  clear h hr hk
  go_enter Try.func15, Try.ntmps15
  go_wp2_with (go_at_call 32; refine cF.mono ?_; rintro e w' ⟨rfl, rfl⟩)
  go_ret
  exact ⟨rfl, rfl⟩
/-- The node is no file, or there is none. -/
theorem write_file {w : World} {A : FSA} (h : FSAt w A) {ino : Int} (he : A.fileErr ino ≠ 0) (at_ : Int) (B : Option Addr) (n bc : Nat) :
    Calls Try.prog 15 #[A.fp, .int .i64 ino, .int .i64 at_, .slice B n bc] w fun e w' => e = .returned (.int .i64 (A.fileErr ino)) ∧ w = w' := by
  have cF := file_bad h he
  have hz' : (A.fileErr ino != 0) = true := by simp [he]
  unfold FSA.fp at *
  generalize A.fileErr ino = x at *
  have He := Lib.hid he
  clear h he
  go_enter Try.func15, Try.ntmps15
  go_wp2_with (go_at_call 32; refine cF.mono ?_; rintro e w' ⟨rfl, rfl⟩)
  go_ret
  exact ⟨rfl, rfl⟩
end Go.Proofs.Ytccfimgpbmkpiaa
