/- (*tree.FS).Write where nothing fits, or the place may not be. Conditions: the counters are in bounds, the node's pieces are in order. -/
import Derived.Test.YtccfimgpbmkpiaaWriteZ
import Derived.Test.YtccfimgpbmkpiaaRead
namespace Go.Proofs.Ytccfimgpbmkpiaa
set_option linter.unusedVariables false
set_option linter.unusedSimpArgs false
set_option maxRecDepth 100000
open Go.RowKit Go.MapKept

set_option maxHeartbeats 1000000 in
/-- There is no room for the first byte. -/
theorem write_none {w : World} {A : FSA} (h : FSAt w A) {ino : Int} {r : NodeR} (hr : A.node? ino = some r) (hk : r.n.kind = 1) (at_ : Int) (B : Option Addr) (n bc : Nat)
    (ha0 : 0 ≤ at_) (ha1 : at_ + (n : Int) ≤ 1099511627776) (hn0 : 0 < n) (hm : r.plen ≤ 524288) (hok : PcOk r.pieces) {lo : Int} (hasc : Asc lo r.pieces)
    (hq0 : 0 ≤ A.used) (hq1 : A.used ≤ A.quota) (hq2 : A.quota ≤ 4611686018427387904) {more : Int} (hf : fitsL r.pieces at_ n (A.quota - A.used) = (0, more)) :
    Calls Try.prog 15 #[A.fp, .int .i64 ino, .int .i64 at_, .slice B n bc] w fun e w' => e = .returned (.int .i64 5) ∧ Below w.heap.size w w' := by
  have hnode := h.at_ hr
  have hc := h.c
  have hn := hnode.c
  have hfz1 := h.f
  have cF := file_ok h hr hk
  have cFits := fun N => fits_any (w := w.drewN N) (hnode.pcs.keep (fun _ _ _ _ _ h => h)) (by omega) hok hasc at_ n (A.quota - A.used) ha0 (by omega) (by omega) (by omega) (by omega) (by omega)
  simp only [hf] at cFits
  have Hf := Lib.hid hf
  have H := Lib.hid h
  have Hok := Lib.hid hok
  have Hasc := Lib.hid hasc
  have Hnode := Lib.hid hnode
  have Hk := Lib.hid hk
  have Hr := Lib.hid hr
  clear hf h hok hasc hnode hk hr
  unfold FSA.fp at *
  have hw1 : IntKind.i64.wrap (1099511627776 - at_) = 1099511627776 - at_ := IntWalk.i64_in _ (by omega)
  have hw2 : IntKind.i64.wrap (A.quota - A.used) = A.quota - A.used := IntWalk.i64_in _ (by omega)
  go_enter Try.func15, Try.ntmps15
  go_wp2_with (go_at_call 32; refine cF.mono ?_; rintro e w' ⟨rfl, rfl⟩)
  go_region_held3 (fun w' => w'.cell? ⟨r.blk, 12, none⟩ = some (.slice r.pad r.plen r.pcap) ∧ w'.cell? ⟨A.fb, 2, none⟩ = some (.int .i64 A.quota) ∧ w'.cell? ⟨A.fb, 3, none⟩ = some (.int .i64 A.used)) (first | exact kb1 | go_keep) (first | (go_at_call 33; refine (cFits _).mono ?_; rintro e w1 ⟨rfl, hb1⟩; have kb1 := node_kept H.out Hr.out hb1))
  have hbw : Below w.heap.size w w1 := (belowN (Below.refl _ w) _).trans hb1
  clear kb1 hb1 cF cFits
  go_wp2_with fail
  go_ret
  exact ⟨rfl, hbw⟩
/-- The place may not be. -/
theorem write_arg {w : World} {A : FSA} (h : FSAt w A) {ino : Int} {r : NodeR} (hr : A.node? ino = some r) (hk : r.n.kind = 1) (at_ : Int) (B : Option Addr) (n bc : Nat) (hs : at_ < 0 ∨ 1099511627776 < at_ ∨ (0 ≤ at_ ∧ at_ ≤ 1099511627776 ∧ 1099511627776 < at_ + (n : Int))) (hn : n ≤ 9223372036854775807) :
    Calls Try.prog 15 #[A.fp, .int .i64 ino, .int .i64 at_, .slice B n bc] w fun e w' => e = .returned (.int .i64 1) ∧ w = w' := by
  have cF := file_ok h hr hk
  unfold FSA.fp at *
  clear h hr hk
  rcases hs with hs | hs | ⟨h0, h1, h2⟩
  · go_enter Try.func15, Try.ntmps15
    go_wp2_with (go_at_call 32; refine cF.mono ?_; rintro e w' ⟨rfl, rfl⟩)
    go_ret
    exact ⟨rfl, rfl⟩
  · have hs0 : ¬ at_ < 0 := by omega
    go_enter Try.func15, Try.ntmps15
    go_wp2_with (go_at_call 32; refine cF.mono ?_; rintro e w' ⟨rfl, rfl⟩)
    go_ret
    exact ⟨rfl, rfl⟩
  · have h3 : 1099511627776 - at_ < (n : Int) := by omega
    have hw1 : IntKind.i64.wrap (1099511627776 - at_) = 1099511627776 - at_ := IntWalk.i64_in _ (by omega)
    go_enter Try.func15, Try.ntmps15
    go_wp2_with (go_at_call 32; refine cF.mono ?_; rintro e w' ⟨rfl, rfl⟩)
    go_ret
    exact ⟨rfl, rfl⟩
end Go.Proofs.Ytccfimgpbmkpiaa
