/- tree.New: a *tree.FS with a root, in new blocks. No conditions. -/
import Derived.Test.YtccfimgpbmkpiaaFsB
import Derived.Test.YtccfimgpbmkpiaaFsA
import Derived.Deep.Light
import Derived.Outline
namespace Go.Proofs.Ytccfimgpbmkpiaa
set_option linter.unusedVariables false
set_option linter.unusedSimpArgs false
set_option maxRecDepth 100000
open Go.RowKit Go.MapKept

def rootNode : ANode := ⟨6, 493, 0, 0, 0, ⟨#[]⟩, 0, 0, 0, 1, 0⟩
def FSA.new (b : Nat) (quota : Int) : FSA :=
  { fb := b + 3, mb := b + 2, nodes := [(1, { n := rootNode, nm := some b, names := [], pad := none, plen := 0, pcap := 0, pieces := [], up := 0, blk := b + 1 })], next := 2, quota := max quota 0, used := 0, clock := 0 }

theorem new_any (q : Int) (w : World) : Calls Try.prog 8 #[.int .i64 q] w fun e w' => e = .returned (FSA.new w.heap.size q).fp ∧ FSAt w' (FSA.new w.heap.size q) ∧ Below w.heap.size w w' := by
  have hmm := @run_makeMap Try.prog
  go_enter Try.func8, Try.ntmps8
  go_wp2
  refine upon_push (eK := eInt) (eV := ePtr) (l := []) (x := 1) (v := w.heap.size + 1) ?_ Try.underlying73 Try.underlying3 eInt_key eInt_inj (by simp) ?_
  · have := MapOf.new (K := Int) (V := Nat) (eK := eInt) (eV := ePtr) ((w.alloc (.map #[] 0)).alloc (.cells #[.int .i64 6, .int .i64 493, .int .i64 0, .int .i64 0, .int .i64 0, .string ⟨#[]⟩, .int .i64 0, .int .i64 0, .int .i64 0, .int .i64 1, .int .i64 0, .map (some w.heap.size), .slice none 0 0, .int .i64 0] 72))
    simpa using this
  intro w1 hm1 ho1
  have hs1 : w1.heap.size = w.heap.size + 3 := by rw [ho1.size]; simp
  have HO := Lib.hid ho1
  have HS := Lib.hid hs1
  clear ho1 hs1
  go_wp2
  go_light
  go_ret
  have ho := HO.out
  have hs := HS.out
  refine ⟨by unfold FSA.fp FSA.new; rw [hs]; rfl, ?_, ?_⟩
  · have hroot := ((Blk.new (w.alloc (.map #[] 0)) 72 #[.int .i64 6, .int .i64 493, .int .i64 0, .int .i64 0, .int .i64 0, .string ⟨#[]⟩, .int .i64 0, .int .i64 0, .int .i64 0, .int .i64 1, .int .i64 0, .map (some w.heap.size), .slice none 0 0, .int .i64 0]).alloc (.map #[] 0))
    rw [World.size_alloc] at hroot
    have hroot2 := (ho.blk hroot (by omega)).alloc (.cells #[.map (some (w.heap.size + 1 + 1)), .int .i64 2, .int .i64 (max q 0), .int .i64 0, .int .i64 0] 75)
    have hnm : MapOf eStr eInt (w1.alloc (.cells #[.map (some (w.heap.size + 1 + 1)), .int .i64 2, .int .i64 (max q 0), .int .i64 0, .int .i64 0] 75)) w.heap.size ([] : List (ByteArray × Int)) := by
      refine (MapOf.new (K := ByteArray) (V := Int) w).keep ?_
      rw [Below.heap_alloc _ _ _ (by omega), ho.far _ (by omega), Below.heap_alloc _ _ _ (by simp; omega), Below.heap_alloc _ _ _ (by simp)]
    refine ⟨?_, ?_, ?_, ?_, ?_⟩
    · have := Blk.new w1 75 #[.map (some (w.heap.size + 1 + 1)), .int .i64 2, .int .i64 (max q 0), .int .i64 0, .int .i64 0]
      rw [hs] at this
      exact this
    · exact hm1.keep (Below.heap_alloc _ _ _ (by omega))
    · intro p hp
      obtain rfl : p = (1, { n := rootNode, nm := some w.heap.size, names := [], pad := none, plen := 0, pcap := 0, pieces := [], up := 0, blk := w.heap.size + 1 }) := by simpa [FSA.new] using hp
      exact ⟨hroot2, fun b hb => by cases hb; exact hnm, fun _ => rfl, by simp [rootNode], PcsAt.nil _⟩
    · simp [FSA.new]
    · simp [FSA.new]
  · exact ((((Below.refl _ w).alloc (Nat.le_refl _) _).alloc (by simp) _).alloc (by simp; omega) _).trans ((ho.frm.below (n := w.heap.size) (by simp; omega) (fun x hx e => by omega)).alloc (by omega) _)
end Go.Proofs.Ytccfimgpbmkpiaa
