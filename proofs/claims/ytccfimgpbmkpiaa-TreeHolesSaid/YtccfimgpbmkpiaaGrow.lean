/- (*tree.FS).Grow: what it returns and what the tree is then. Conditions: the counters are in bounds. -/
import Derived.Test.YtccfimgpbmkpiaaWrite
namespace Go.Proofs.Ytccfimgpbmkpiaa
set_option linter.unusedVariables false
set_option linter.unusedSimpArgs false
set_option maxRecDepth 100000
open Go.RowKit Go.MapKept

/-- The node is no file, or there is none. -/
theorem grow_file {w : World} {A : FSA} (h : FSAt w A) {ino : Int} (he : A.fileErr ino ≠ 0) (size : Int) :
    Calls Try.prog 19 #[A.fp, .int .i64 ino, .int .i64 size] w fun e w' => e = .returned (.int .i64 (A.fileErr ino)) ∧ w = w' := by
  have cF := file_bad h he
  have hz' : (A.fileErr ino != 0) = true := by simp [he]
  unfold FSA.fp at *
  generalize A.fileErr ino = x at *
  have He := Lib.hid he
  clear h he
  go_enter Try.func19, Try.ntmps19
  go_wp2_with (go_at_call 32; refine cF.mono ?_; rintro e w' ⟨rfl, rfl⟩)
  go_ret
  exact ⟨rfl, rfl⟩
/-- The size may not be. -/
theorem grow_size {w : World} {A : FSA} (h : FSAt w A) {ino : Int} {r : NodeR} (hr : A.node? ino = some r) (hk : r.n.kind = 1) (size : Int) (hs : size < 0 ∨ 1099511627776 < size) :
    Calls Try.prog 19 #[A.fp, .int .i64 ino, .int .i64 size] w fun e w' => e = .returned (.int .i64 1) ∧ w = w' := by
  have cF := file_ok h hr hk
  unfold FSA.fp at *
  clear h hr hk
  rcases hs with hs | hs
  · go_enter Try.func19, Try.ntmps19
    go_wp2_with (go_at_call 32; refine cF.mono ?_; rintro e w' ⟨rfl, rfl⟩)
    go_ret
    exact ⟨rfl, rfl⟩
  · have hs0 : ¬ size < 0 := by omega
    go_enter Try.func19, Try.ntmps19
    go_wp2_with (go_at_call 32; refine cF.mono ?_; rintro e w' ⟨rfl, rfl⟩)
    go_ret
    exact ⟨rfl, rfl⟩

def GrownPost (A : FSA) (r : NodeR) (size : Int) (w : World) (e : Ending) (w' : World) : Prop :=
  e = .returned (.int .i64 0) ∧ ∃ P pn pc, FSAt w' (A.wrote r P pn pc (partL r.pieces 0 size) size ((sumLen (partL r.pieces 0 size) : Int) - (sumLen r.pieces : Int))) ∧ Frm (fun b => b = A.fb ∨ b = r.blk) w w'
theorem sumLen_partL (ps : List CP) (f t : Int) : sumLen (partL ps f t) ≤ sumLen ps := by
  unfold sumLen partL
  induction ps with
  | nil => simp
  | cons p ps ih =>
    rw [List.filterMap_cons]
    by_cases h : max p.at_ f < min (p.at_ + (p.len : Int)) t
    · rw [if_pos h]
      simp only [List.map_cons, List.sum_cons]
      have : (p.cut (max p.at_ f) (min (p.at_ + (p.len : Int)) t)).len ≤ p.len := by simp only [CP.cut]; omega
      omega
    · rw [if_neg h]
      simp only [List.map_cons, List.sum_cons]
      omega
theorem used_stays {w w1 : World} {A : FSA} (h : FSAt w A) {N : Nat} (hb : Below (w.drewN N).heap.size (w.drewN N) w1) :
    w1.cell? ⟨A.fb, 3, none⟩ = some (.int .i64 A.used) ∧ w1.frozen? ⟨A.fb, 3, none⟩ = false := by
  have h1 : FSAt w1 A := FSAt.below (FSAt.drewN h N) hb
  exact ⟨h1.c 3, h1.f 3⟩

set_option maxHeartbeats 1000000 in
theorem grow_ok {w : World} {A : FSA} (h : FSAt w A) {ino : Int} {r : NodeR} (hr : A.node? ino = some r) (hk : r.n.kind = 1) (size : Int) (hs0 : 0 ≤ size) (hs1 : size ≤ 1099511627776)
    (hm : r.plen ≤ 524288) (hok : PcOk r.pieces) (hsum : sumLen r.pieces < 2305843009213693952) (hu0 : 0 ≤ A.used) (hu1 : A.used ≤ 2305843009213693952) (hc0 : 0 ≤ A.clock) (hc1 : A.clock < 4611686018427387904) :
    Calls Try.prog 19 #[A.fp, .int .i64 ino, .int .i64 size] w (GrownPost A r size w) := by
  have hnode := h.at_ hr
  have hn := hnode.c
  have cF := file_ok h hr hk
  have cB := bytes_any hnode.pcs (by omega) (by omega)
  have hnlt := hnode.blk.lt
  have H := Lib.hid h
  have Hok := Lib.hid hok
  have Hr := Lib.hid hr
  clear h hok hnode hk hr
  unfold FSA.fp at *
  go_enter Try.func19, Try.ntmps19
  go_wp2_with (first | (go_at_call 32; refine cF.mono ?_; rintro e w' ⟨rfl, rfl⟩) | fail)
  refine cB.mono ?_
  rintro e w1 ⟨rfl, hb1⟩
  have q1 : FSAt w1 A := FSAt.below H.out hb1
  have hn1 := (q1.at_ Hr.out).c
  have cP := part_any (q1.at_ Hr.out).pcs (by omega) Hok.out 0 size
  have Q1 := Lib.hid q1
  have F1 := Lib.hid (Frm.of_below hb1 (fun b => b = A.fb ∨ b = r.blk))
  clear q1 hn cF cB hb1
  go_wp2_with fail
  refine cP.mono ?_
  intro e w2 hp
  obtain ⟨P, pn, pc, rfl, hpc, hlen, _, hb2⟩ := PartPost.pcs (Q1.out.at_ Hr.out).pcs hp
  have q2 : FSAt w2 A := FSAt.below Q1.out hb2
  have hbl := (q2.at_ Hr.out).blk
  have hne : r.blk ≠ A.fb := hbl.ne_ q2.fs (by decide)
  have hn2 := (q2.at_ Hr.out).c
  have hf2 := (q2.at_ Hr.out).f
  have hl2 := hbl.lt
  have q3 : FSAt (w2.setCell ⟨r.blk, 12, none⟩ (.slice P pn pc)) (A.updB r.blk (setPcs P pn pc (partL r.pieces 0 size))) := FSAt.store q2 hbl (turns_pcs P pn pc _) (fun _ _ => hpc)
  have hr3 : (A.updB r.blk (setPcs P pn pc (partL r.pieces 0 size))).node? ino = some (setPcs P pn pc (partL r.pieces 0 size) r) := by rw [updB_node, Hr.out]; simp
  have F3 : Frm (fun b => b = A.fb ∨ b = r.blk) w (w2.setCell ⟨r.blk, 12, none⟩ (.slice P pn pc)) := (F1.out.trans' (Frm.of_below hb2 _)).setCell (fun _ => .inr rfl) _
  have hpl : pn ≤ 524288 := by
    have h1 := partL_length r.pieces 0 size
    have h2 := (Q1.out.at_ Hr.out).pcs.1
    omega
  have Q3 := Lib.hid q3
  have Hr3 := Lib.hid hr3
  have FF3 := Lib.hid F3
  clear q2 q3 hr3 F3 hbl hn1 hp hpc hlen hb2 cP
  go_wp2_with fail
  generalize w2.setCell ⟨r.blk, 12, none⟩ (.slice P pn pc) = w3 at *
  have hc3 := Q3.out.c
  have hn3 := (Q3.out.at_ Hr3.out).c
  have hf3 := Q3.out.f
  dsimp only [FSA.updB, setPcs] at hc3 hn3 hf3
  have hsl := sumLen_partL r.pieces 0 size
  have cB := fun q => bytes_any (w := w3.drewN q) ((Q3.out.at_ Hr3.out).pcs.keep (fun _ _ _ _ _ h => h)) (by show pn ≤ _; omega) (by show sumLen (partL r.pieces 0 size) < _; omega)
  dsimp only [setPcs] at cB
  have hw1 : IntKind.i64.wrap ((sumLen (partL r.pieces 0 size) : Int) - (sumLen r.pieces : Int)) = (sumLen (partL r.pieces 0 size) : Int) - (sumLen r.pieces : Int) := IntWalk.i64_in _ (by omega)
  have hw2 : IntKind.i64.wrap (A.used + ((sumLen (partL r.pieces 0 size) : Int) - (sumLen r.pieces : Int))) = A.used + ((sumLen (partL r.pieces 0 size) : Int) - (sumLen r.pieces : Int)) := IntWalk.i64_in _ (by omega)
  clear hn2 hf2 hl2 hnlt
  go_region_with (go_at_call 35; refine (cB _).mono ?_; rintro e w4 ⟨rfl, hb4⟩; have kc := (used_stays Q3.out hb4).1; have kf := (used_stays Q3.out hb4).2; dsimp only [FSA.updB, setPcs] at kc kf)
  all_goals
    have q4 : FSAt w4 (A.updB r.blk (setPcs P pn pc (partL r.pieces 0 size))) := FSAt.below (FSAt.drewN Q3.out _) hb4
    have q5 : FSAt (w4.setCell ⟨A.fb, 3, none⟩ (.int .i64 (A.used + ((sumLen (partL r.pieces 0 size) : Int) - (sumLen r.pieces : Int))))) { A.updB r.blk (setPcs P pn pc (partL r.pieces 0 size)) with used := A.used + ((sumLen (partL r.pieces 0 size) : Int) - (sumLen r.pieces : Int)) } := FSAt.counter q4 rfl rfl rfl rfl
    have F5 := (FF3.out.trans' (Frm.of_below (belowN (Below.refl _ w3) _ |>.trans hb4) _)).setCell (p := ⟨A.fb, 3, none⟩) (fun _ => .inl rfl) (.int .i64 (A.used + ((sumLen (partL r.pieces 0 size) : Int) - (sumLen r.pieces : Int))))
    generalize w4.setCell ⟨A.fb, 3, none⟩ (.int .i64 (A.used + ((sumLen (partL r.pieces 0 size) : Int) - (sumLen r.pieces : Int)))) = w5 at *
    have hr5 : ({ A.updB r.blk (setPcs P pn pc (partL r.pieces 0 size)) with used := A.used + ((sumLen (partL r.pieces 0 size) : Int) - (sumLen r.pieces : Int)) } : FSA).node? ino = some (setPcs P pn pc (partL r.pieces 0 size) r) := Hr3.out
    have hn5 := (q5.at_ hr5).c
    have hf5 := (q5.at_ hr5).f
    have hl5 := (q5.at_ hr5).blk.lt
    dsimp only [FSA.updB, setPcs] at hn5 hf5 hl5
    have Q5 := Lib.hid q5
    have Hr5 := Lib.hid hr5
    have FF5 := Lib.hid F5
    clear q4 q5 F5 hr5 kc kf hc3 hn3 hf3 cB hb4
    go_wp2_with fail
    have i5 : IsNode w5 r.blk := show IsNode w5 (setPcs P pn pc (partL r.pieces 0 size) r).blk from IsNode.of (Q5.out.at_ Hr5.out)
    obtain ⟨cs5, hB5, _⟩ := i5
    have q6 := FSAt.store' Q5.out hB5 (turns_size size) (fun _ => ⟨rfl, rfl, rfl, rfl⟩)
    have F6 := (FF5.out.setCell (p := ⟨r.blk, 8, none⟩) (fun _ => .inr rfl) (.int .i64 size)).alloc (.cells #[.pointer (some ⟨r.blk, 0, none⟩)] 69)
    have i6 : IsNode (w5.setCell ⟨r.blk, 8, none⟩ (.int .i64 size)) r.blk := (show IsNode w5 (setPcs P pn pc (partL r.pieces 0 size) r).blk from IsNode.of (Q5.out.at_ Hr5.out)).setCell _ _ _
    have hsz : w5.heap.size = (w5.setCell ⟨r.blk, 8, none⟩ (.int .i64 size)).heap.size := by simp
    have p6 := ptrs1 (w5.setCell ⟨r.blk, 8, none⟩ (.int .i64 size)) r.blk
    rw [← hsz] at p6
    refine (tick_any (q6.alloc _) hc0 hc1 none (some ⟨w5.heap.size, 0, none⟩) 0 1 [] [r.blk] (PtrsAt.nil _) p6 (by simp) (by simp) ?_).mono ?_
    · intro y hy
      rcases hy with hy | hy
      · cases hy
      · obtain rfl : y = r.blk := by simpa using hy
        exact i6.alloc _
    rintro e w7 ⟨rfl, h7, hf7⟩
    have hend : ∃ P pn pc, FSAt w7 (A.wrote r P pn pc (partL r.pieces 0 size) size ((sumLen (partL r.pieces 0 size) : Int) - (sumLen r.pieces : Int))) ∧ Frm (fun b => b = A.fb ∨ b = r.blk) w w7 := by
      refine ⟨P, pn, pc, h7, Frm.trans F6 hf7 fun y _ hy => ?_⟩
      rcases hy with rfl | hy | hy
      · exact .inl rfl
      · cases hy
      · exact .inr (by simpa using hy)
    have Hend := Lib.hid hend
    clear hend q6 F6 i6 hsz p6 h7 hf7 hn5 hf5
    go_wp2_with fail
    go_ret
    exact ⟨rfl, Hend.out⟩
end Go.Proofs.Ytccfimgpbmkpiaa
