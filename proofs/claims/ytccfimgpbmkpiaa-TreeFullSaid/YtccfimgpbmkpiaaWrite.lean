/- (*tree.FS).Write: what it returns and what the tree is then. Conditions: the counters are in bounds, the node's pieces are in order. -/
import Derived.Test.YtccfimgpbmkpiaaOver
import Derived.Test.YtccfimgpbmkpiaaMove
namespace Go.Proofs.Ytccfimgpbmkpiaa
set_option linter.unusedVariables false
set_option linter.unusedSimpArgs false
set_option maxRecDepth 100000
open Go.RowKit Go.MapKept

theorem BytesR.take {w : World} {A : Option Addr} {n c : Nat} {bs : List UInt8} (h : BytesR w A n c bs) {k : Nat} (hk : k ≤ n) : BytesR w A k c (bs.take k) := by
  refine ⟨by rw [List.length_take, h.1]; omega, by have := h.2.1; omega, fun hn => ?_⟩
  obtain ⟨g, o, cs, t, fr, e, hg, hc⟩ := h.2.2 (by omega)
  refine ⟨g, o, cs, t, fr, e, hg, fun j hj => ?_⟩
  rw [List.length_take] at hj
  rw [List.getElem_take]
  exact hc j (by omega)

def setPcs (P : Option Addr) (n c : Nat) (ps : List CP) (r : NodeR) : NodeR := { r with pad := P, plen := n, pcap := c, pieces := ps }
theorem turns_pcs (P : Option Addr) (n c : Nat) (ps : List CP) : Turns (setPcs P n c ps) 12 (.slice P n c) := ⟨fun _ => rfl, fun _ => rfl, fun _ => rfl, fun _ => rfl, fun _ => rfl⟩

/-- The tree behind Write. -/
def FSA.wrote (A : FSA) (r : NodeR) (P : Option Addr) (n c : Nat) (ps : List CP) (sz more : Int) : FSA :=
  (({ (A.updB r.blk (setPcs P n c ps)).updB r.blk (setSize sz) with used := A.used + more } : FSA).tick [] [r.blk])

def WrotePost (A : FSA) (r : NodeR) (at_ : Int) (n : Nat) (bs : List UInt8) (K : Nat) (more : Int) (w : World) (e : Ending) (w' : World) : Prop :=
  e = .returned (.int .i64 (if K < n then 5 else 0)) ∧ ∃ P pn pc ps, cont ps = mergeV (cont (partL r.pieces 0 at_) ++ [(at_, bs.take K)] ++ cont (partL r.pieces (at_ + K) 1099511627776)) ∧
    FSAt w' (A.wrote r P pn pc ps (max r.n.size (at_ + K)) more) ∧ Frm (fun b => b = A.fb ∨ b = r.blk) w w'

theorem node_kept {w w1 : World} {A : FSA} (h : FSAt w A) {ino : Int} {r : NodeR} (hr : A.node? ino = some r) {N : Nat} (hb : Below (w.drewN N).heap.size (w.drewN N) w1) :
    w1.cell? ⟨r.blk, 12, none⟩ = some (.slice r.pad r.plen r.pcap) ∧ w1.cell? ⟨A.fb, 2, none⟩ = some (.int .i64 A.quota) ∧ w1.cell? ⟨A.fb, 3, none⟩ = some (.int .i64 A.used) := by
  have h1 : FSAt w1 A := FSAt.below (FSAt.drewN h N) hb
  exact ⟨(h1.at_ hr).c 12, h1.c 2, h1.c 3⟩

theorem over_kept {w w1 : World} {A : FSA} (h : FSAt w A) {ino : Int} {r : NodeR} (hr : A.node? ino = some r) {N : Nat} (hb : Below (w.drewN N).heap.size (w.drewN N) w1) :
    w1.cell? ⟨r.blk, 12, none⟩ = some (.slice r.pad r.plen r.pcap) := (node_kept h hr hb).1
theorem over_kept_f {w w1 : World} {A : FSA} (h : FSAt w A) {ino : Int} {r : NodeR} (hr : A.node? ino = some r) {N : Nat} (hb : Below (w.drewN N).heap.size (w.drewN N) w1) :
    w1.frozen? ⟨r.blk, 12, none⟩ = false := ((FSAt.below (FSAt.drewN h N) hb).at_ hr).f 12

set_option maxHeartbeats 1000000 in
theorem write_pos {w : World} {A : FSA} (h : FSAt w A) {ino : Int} {r : NodeR} (hr : A.node? ino = some r) (hk : r.n.kind = 1) (at_ : Int) (B : Option Addr) (n bc : Nat) (bs : List UInt8) (hB : BytesR w B n bc bs)
    (ha0 : 0 ≤ at_) (ha1 : at_ + (n : Int) ≤ 1099511627776) (hn0 : 0 < n) (hm : r.plen ≤ 524288) (hok : PcOk r.pieces) {lo : Int} (hasc : Asc lo r.pieces)
    (hq0 : 0 ≤ A.used) (hq1 : A.used ≤ A.quota) (hq2 : A.quota ≤ 4611686018427387904) (hc0 : 0 ≤ A.clock) (hc1 : A.clock < 4611686018427387904) {K : Nat} {more : Int} (hf : fitsL r.pieces at_ n (A.quota - A.used) = ((K : Int), more))
    (hK0 : 0 < K) (hK1 : K ≤ n) (hm0 : 0 ≤ more) (hm1 : more ≤ A.quota - A.used) :
    Calls Try.prog 15 #[A.fp, .int .i64 ino, .int .i64 at_, .slice B n bc] w (WrotePost A r at_ n bs K more w) := by
  have hnode := h.at_ hr
  have hc := h.c
  have hn := hnode.c
  have hfz1 := h.f
  have cF := file_ok h hr hk
  have cFits := fun N => fits_any (w := w.drewN N) (hnode.pcs.keep (fun _ _ _ _ _ h => h)) (by omega) hok hasc at_ n (A.quota - A.used) ha0 (by omega) (by omega) (by omega) (by omega) (by omega)
  simp only [hf] at cFits
  have Hf := Lib.hid hf
  have H := Lib.hid h
  have HB := Lib.hid hB
  have Hok := Lib.hid hok
  have Hasc := Lib.hid hasc
  have Hnode := Lib.hid hnode
  have Hk := Lib.hid hk
  have Hr := Lib.hid hr
  clear hf h hB hok hasc hnode hk hr
  unfold FSA.fp at *
  have hw1 : IntKind.i64.wrap (1099511627776 - at_) = 1099511627776 - at_ := IntWalk.i64_in _ (by omega)
  have hw2 : IntKind.i64.wrap (A.quota - A.used) = A.quota - A.used := IntWalk.i64_in _ (by omega)
  go_enter Try.func15, Try.ntmps15
  go_wp2_with (go_at_call 32; refine cF.mono ?_; rintro e w' ⟨rfl, rfl⟩)
  go_region_held3 (fun w' => w'.cell? ⟨r.blk, 12, none⟩ = some (.slice r.pad r.plen r.pcap) ∧ w'.cell? ⟨A.fb, 2, none⟩ = some (.int .i64 A.quota) ∧ w'.cell? ⟨A.fb, 3, none⟩ = some (.int .i64 A.used)) (first | exact kb1 | go_keep) (first | (go_at_call 33; refine (cFits _).mono ?_; rintro e w1 ⟨rfl, hb1⟩; have kb1 := node_kept H.out Hr.out hb1))
  have q1 : FSAt w1 A := FSAt.below (FSAt.drewN H.out _) hb1
  have hfr : Frm (fun b => b = A.fb ∨ b = r.blk) w w1 := Frm.of_below (belowN (Below.refl _ w) _ |>.trans hb1) _
  have hcc := q1.c
  have hnn := (q1.at_ Hr.out).c
  have hfn := (q1.at_ Hr.out).f
  have cOver := fun N => over_any (w := w1.drewN N) ((q1.at_ Hr.out).pcs.keep (fun _ _ _ _ _ h => h)) hm Hok.out at_ B K bc (bs.take K) ((HB.out.take hK1).keep (fun g cs t fr ht hg => (hb1.block g (heap_lt hg)).trans hg)) ha0 (by omega) hK0 (by omega)
  have Q1 := Lib.hid q1
  clear q1 hc hn hfz1 cF cFits kb1
  obtain ⟨g, o, cs, t, fr, hBe, _, _⟩ := HB.out.2.2 hn0
  have hbc := HB.out.2.1
  subst hBe
  go_wp2_with fail
  have hK2 : K ≤ bc := by omega
  have hK3 : (0 : Int) ≤ (K : Int) := by omega
  have hK4 : ((K : Int)).toNat = K := rfl
  have hK5 : (K : Int) ≤ (bc : Int) := by omega
  go_region_with (go_at_call 34; refine (cOver _).mono ?_; rintro e w2 ⟨P, pn, pc, ps, rfl, hP, hcon, hb2⟩; have kc := over_kept Q1.out Hr.out hb2; have kf := over_kept_f Q1.out Hr.out hb2)
  have q2 : FSAt w2 A := FSAt.below (FSAt.drewN Q1.out _) hb2
  have hbl := (q2.at_ Hr.out).blk
  have hne : r.blk ≠ A.fb := hbl.ne_ q2.fs (by decide)
  have q3 : FSAt (w2.setCell ⟨r.blk, 12, none⟩ (.slice P pn pc)) (A.updB r.blk (setPcs P pn pc ps)) := FSAt.store q2 hbl (turns_pcs P pn pc ps) (fun _ _ => hP)
  have hr3 : (A.updB r.blk (setPcs P pn pc ps)).node? ino = some (setPcs P pn pc ps r) := by rw [updB_node, Hr.out]; simp
  have hfr3 : Frm (fun b => b = A.fb ∨ b = r.blk) w (w2.setCell ⟨r.blk, 12, none⟩ (.slice P pn pc)) := Frm.setCell (Frm.trans' hfr (Frm.of_below (belowN (Below.refl _ w1) _ |>.trans hb2) _)) (fun _ => .inr rfl) _
  generalize w2.setCell ⟨r.blk, 12, none⟩ (.slice P pn pc) = w3 at *
  have hcc := q3.c
  have hnn := (q3.at_ hr3).c
  have hfn := (q3.at_ hr3).f
  have hff := q3.f
  have Q3 := Lib.hid q3
  have Hr3 := Lib.hid hr3
  have Hcon := Lib.hid hcon
  clear q3 hr3 hcon q2 hbl kc kf hb2 hP cOver
  dsimp only [FSA.updB, setPcs] at hcc hnn hff hfn
  have hw3 : IntKind.i64.wrap (at_ + (K : Int)) = at_ + (K : Int) := IntWalk.i64_in _ (by omega)
  have hw4 : IntKind.i64.wrap (A.used + more) = A.used + more := IntWalk.i64_in _ (by omega)
  have hne' : A.fb ≠ r.blk := fun e => hne e.symm
  go_wp2_with fail
  have i3 : IsNode w3 r.blk := show IsNode w3 (setPcs P pn pc ps r).blk from IsNode.of (Q3.out.at_ Hr3.out)
  obtain ⟨cs3, hB3, _⟩ := i3
  have q4 := FSAt.store' Q3.out hB3 (turns_size (max r.n.size (at_ + (K : Int)))) (fun _ => ⟨rfl, rfl, rfl, rfl⟩)
  have q5 : FSAt ((w3.setCell ⟨r.blk, 8, none⟩ (.int .i64 (max r.n.size (at_ + (K : Int))))).setCell ⟨A.fb, 3, none⟩ (.int .i64 (A.used + more))) { (A.updB r.blk (setPcs P pn pc ps)).updB r.blk (setSize (max r.n.size (at_ + (K : Int)))) with used := A.used + more } := FSAt.counter q4 rfl rfl rfl rfl
  have F5 := ((hfr3.setCell (p := ⟨r.blk, 8, none⟩) (fun _ => .inr rfl) (.int .i64 (max r.n.size (at_ + (K : Int))))).setCell (p := ⟨A.fb, 3, none⟩) (fun _ => .inl rfl) (.int .i64 (A.used + more))).alloc (.cells #[.pointer (some ⟨r.blk, 0, none⟩)] 69)
  have i5 : IsNode ((w3.setCell ⟨r.blk, 8, none⟩ (.int .i64 (max r.n.size (at_ + (K : Int))))).setCell ⟨A.fb, 3, none⟩ (.int .i64 (A.used + more))) r.blk := (IsNode.setCell (show IsNode w3 (setPcs P pn pc ps r).blk from IsNode.of (Q3.out.at_ Hr3.out)) _ _ _).setCell _ _ _
  have hsz : w3.heap.size = ((w3.setCell ⟨r.blk, 8, none⟩ (.int .i64 (max r.n.size (at_ + (K : Int))))).setCell ⟨A.fb, 3, none⟩ (.int .i64 (A.used + more))).heap.size := by simp
  have p5 := ptrs1 ((w3.setCell ⟨r.blk, 8, none⟩ (.int .i64 (max r.n.size (at_ + (K : Int))))).setCell ⟨A.fb, 3, none⟩ (.int .i64 (A.used + more))) r.blk
  rw [← hsz] at p5
  refine (tick_any (q5.alloc _) hc0 hc1 none (some ⟨w3.heap.size, 0, none⟩) 0 1 [] [r.blk] (PtrsAt.nil _) p5 (by simp) (by simp) ?_).mono ?_
  · intro y hy
    rcases hy with hy | hy
    · cases hy
    · obtain rfl : y = r.blk := by simpa using hy
      exact i5.alloc _
  rintro e w6 ⟨rfl, h6, hf6⟩
  have hend : (∃ P pn pc ps, cont ps = mergeV (cont (partL r.pieces 0 at_) ++ [(at_, bs.take K)] ++ cont (partL r.pieces (at_ + K) 1099511627776)) ∧
    FSAt w6 (A.wrote r P pn pc ps (max r.n.size (at_ + K)) more) ∧ Frm (fun b => b = A.fb ∨ b = r.blk) w w6) := by
    refine ⟨P, pn, pc, ps, ?_, h6, Frm.trans F5 hf6 fun y _ hy => ?_⟩
    · rw [Hcon.out]; simp [cont]
    · rcases hy with rfl | hy | hy
      · exact .inl rfl
      · cases hy
      · exact .inr (by simpa using hy)
  have Hend := Lib.hid hend
  clear hend
  clear q4 q5 F5 i5 hsz p5 h6 hf6 hcc hnn hff hfn hfr3 hfr
  by_cases hKn : K < n
  · have hKn' : (K : Int) < (n : Int) := by omega
    go_wp2_with fail
    go_ret
    exact ⟨by rw [if_pos hKn]; rfl, Hend.out⟩
  · have hKn' : ¬ (K : Int) < (n : Int) := by omega
    go_wp2_with fail
    go_ret
    exact ⟨by rw [if_neg hKn]; rfl, Hend.out⟩
end Go.Proofs.Ytccfimgpbmkpiaa
