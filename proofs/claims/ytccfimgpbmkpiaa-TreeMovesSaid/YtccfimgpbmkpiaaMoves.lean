/- portmanteaulaw13.TreeMoves: true. No conditions. -/
import Derived.Test.YtccfimgpbmkpiaaChain
import Derived.Deep.RegionHeld3
import Derived.Deep.AppendLies
import Derived.Laws.AppendOwnNone
namespace Go.Proofs.Ytccfimgpbmkpiaa
set_option linter.unusedVariables false
set_option linter.unusedSimpArgs false
set_option maxRecDepth 100000
open Go.RowKit Go.MapKept

def ats (k : Nat) : List Value := (List.range (k + 1)).map fun m : Nat => .int .i64 ((m : Int) + 1)
theorem ats_get {k m : Nat} (h : m ≤ k) : (ats k)[m]? = some (.int .i64 ((m : Int) + 1)) := by
  unfold ats
  rw [List.getElem?_map, List.getElem?_range (by omega)]; rfl
theorem ats_next (k : Nat) : ats k ++ [.int .i64 ((k : Int) + 2)] = ats (k + 1) := by
  unfold ats
  rw [List.range_succ (n := k + 1), List.map_append]
  simp
  omega
theorem infoInt : (Try.prog.info? 3).map (fun i => (i.zero, i.size, i.bytes)) = some (some (.int .i64 0), 1, 8) := by kernel_rfl
theorem ats_one (w : World) : (w.alloc (.cells #[.int .i64 1] 3)).ownsRow w.heap.size 3 1 (.slice (some ⟨w.heap.size, 0, none⟩) 1 1) 1 (ats 0) :=
  World.ownsRow_lit (e := 3) (size := 1) w #[.int .i64 1] 1 (Nat.le_refl _) (by decide) rfl
theorem ats_cell {w : World} {B g c : Nat} {k m : Nat} (h : w.ownsRow B 3 1 (.slice (some ⟨g, 0, none⟩) (k + 1) c) (k + 1) (ats k)) (hm : m ≤ k) : w.cell? ⟨g, m, none⟩ = some (.int .i64 ((m : Int) + 1)) :=
  (h.cellAt m (by omega)).trans (ats_get hm)

theorem ats_le {w : World} {B g c k : Nat} {xs : List Value} (h : w.ownsRow B 3 1 (.slice (some ⟨g, 0, none⟩) (k + 1) c) (k + 1) xs) : k + 1 ≤ c := by
  rcases h.2 with ⟨h1, _⟩ | ⟨g', cap, cur, h1, _, _, h2, _⟩
  · cases h1
  · injection h1 with _ _ e
    subst e; exact h2

theorem moves_cells {w w4 : World} {A : FSA} {q B g c N I J : Nat} (h : FSAt w A) (hr : w.ownsRow B 3 1 (.slice (some ⟨g, 0, none⟩) (N + 2 + 1) c) (N + 2 + 1) (ats (N + 2))) (hI : I < N + 2) (hJ : J < N + 2) (hf : Frm A.owns (w.drewN q) w4) :
    w4.cell? ⟨g, I, none⟩ = some (.int .i64 ((I : Int) + 1)) ∧ w4.cell? ⟨g, J + 1, none⟩ = some (.int .i64 ((J : Int) + 2)) := by
  have hr4 : w4.ownsRow B 3 1 (.slice (some ⟨g, 0, none⟩) (N + 2 + 1) c) (N + 2 + 1) (ats (N + 2)) := row_frm (w := w.drewN q) (FSAt.drewN h q) hr hf
  refine ⟨ats_cell hr4 (by omega), ?_⟩
  have := ats_cell hr4 (m := J + 1) (by omega)
  rw [this]; congr 2

structure MovesRel (w : World) (fb N : Nat) (v i : Value) (wr : World) (k : Nat) (A : FSA) : Prop where
  le : k ≤ N
  i : i = .int .i64 k
  fs : FSAt wr A
  fb : A.fb = fb
  chain : Chain A k w.heap.size
  row : wr.ownsRow w.heap.size 3 1 v (k + 1) (ats k)
  below : Below w.heap.size w wr

set_option maxHeartbeats 2000000 in
theorem moves_any (n i j : Int) (w : World) : Calls Try.prog 3 #[.int .i64 n, .int .i64 i, .int .i64 j] w fun e w' => e = .returned (.bool true) ∧ Below w.heap.size w w' := by
  obtain ⟨i0, hi, hz0, hz1, hz2⟩ := info_parts infoInt
  obtain ⟨N, hN, hN2⟩ : ∃ N : Nat, bits .and .i64 n 7 = (N : Int) ∧ N ≤ 7 := ⟨(n % 8).toNat, by rw [i64_and7]; omega, by omega⟩
  obtain ⟨I0, hI0, hI1⟩ : ∃ N : Nat, bits .and .i64 i 255 = (N : Int) ∧ N ≤ 255 := ⟨(i % 256).toNat, by rw [i64_and255]; omega, by omega⟩
  obtain ⟨J0, hJ0, hJ1⟩ : ∃ N : Nat, bits .and .i64 j 255 = (N : Int) ∧ N ≤ 255 := ⟨(j % 256).toNat, by rw [i64_and255]; omega, by omega⟩
  have hw : wrap64 ((N : Int) + 2) = (N : Int) + 2 := IntWalk.wrap64_in _ (by omega)
  have hne : ¬ ((N : Int) + 2 = 0) := by omega
  obtain ⟨I, hr1, hI⟩ : ∃ I : Nat, Int.tmod (I0 : Int) ((N : Int) + 2) = (I : Int) ∧ I < N + 2 := ⟨I0 % (N + 2), by rw [show ((N : Int) + 2) = ((N + 2 : Nat) : Int) by push_cast; rfl]; rfl, Nat.mod_lt _ (by omega)⟩
  obtain ⟨J, hr2, hJ⟩ : ∃ J : Nat, Int.tmod (J0 : Int) ((N : Int) + 2) = (J : Int) ∧ J < N + 2 := ⟨J0 % (N + 2), by rw [show ((N : Int) + 2) = ((N + 2 : Nat) : Int) by push_cast; rfl]; rfl, Nat.mod_lt _ (by omega)⟩
  go_enter Try.func3, Try.ntmps3
  go_wp2_with fail
  refine (new_any 100 w).mono ?_
  rintro e w1 ⟨rfl, h1, hb1⟩
  unfold FSA.fp
  go_wp2_with fail
  go_quiet (fail)
  go_wp2_with fail
  obtain ⟨fb0, hfb0⟩ : ∃ x, x = (FSA.new w.heap.size 100).fb := ⟨_, rfl⟩
  rw [← hfb0]
  have H1 := Lib.hid h1
  have Hb1 := Lib.hid hb1
  have Hfb0 := Lib.hid hfb0
  clear h1 hb1 hfb0
  go_loopw [8, 9] (fun v i wr => ∃ k A, MovesRel w fb0 (N + 2) v i wr k A) (fun _ i _ => N + 2 - (intOf i).toNat)
  case atStart =>
    exact ⟨0, _, Nat.zero_le _, rfl, (FSAt.drewN H1.out _).alloc _, Hfb0.out.symm, Chain.new _ _, ownsRow_base (ats_one (w1.drewN nq)) Hb1.out.size, (belowN Hb1.out _).alloc Hb1.out.size _⟩
  case round =>
    obtain ⟨k, A, R⟩ := hrel
    obtain rfl := R.i
    have hk := R.le
    obtain ⟨g, c, hv, hg0, hg1⟩ := R.row.form (by omega)
    subst hv
    have hrow := R.row
    have hcell := ats_cell hrow (Nat.le_refl k)
    have hle : k + 1 ≤ c := ats_le hrow
    have HR := Lib.hid R
    clear R hrow H1 Hb1 Hfb0
    by_cases hlt : k < N + 2
    · obtain ⟨db, cM⟩ := make_ok HR.out.fs (k + 1) sD ⟨6, 7, 0, 0, 0, ⟨#[]⟩, 0, 0, 0, 0, 0⟩ (HR.out.chain.makeErr (by omega)) HR.out.chain.fresh (by rw [HR.out.chain.next]; omega) (by rw [HR.out.chain.next]; omega) (by rw [HR.out.chain.clock]; omega) (by rw [HR.out.chain.clock]; omega)
      unfold FSA.fp at cM
      rw [HR.out.fb, HR.out.chain.next] at cM
      go_wp2_with fail
      refine cM.mono ?_
      rintro e w3 ⟨rfl, nb, xb, xm, h3, hx1, hx2, hx3, hd, hf3⟩
      have hrow3 := row_frm HR.out.fs HR.out.row hf3
      have hch3 := HR.out.chain.made HR.out.fs HR.out.below (Nat.le_refl _) hx1 hx2 hd
      have hb3 := HR.out.chain.above.frm hf3 HR.out.below (Nat.le_refl _)
      have hfb3 := (made_rest A (k + 1) sD ⟨6, 7, 0, 0, 0, ⟨#[]⟩, 0, 0, 0, 0, 0⟩ db nb xb xm).1.trans HR.out.fb
      have HR3 := Lib.hid (And.intro h3 (And.intro hrow3 (And.intro hch3 (And.intro hb3 hfb3))))
      clear h3 hx1 hx2 hx3 hd hf3 hrow3 hch3 hb3 hfb3 cM
      go_wp2_with (at_builtin; go_loud (refine wpList_append_own _ rfl (.tmp 53) (.tmp 55) 24 rfl w.heap.size 3 i0 (.int .i64 0) 1 8 Try.underlying24 hi hz0 hz1 hz2 rfl (by decide) _ _ _ rfl (HR3.out.2.1.alloc _) ⟨w3.heap.size, 0, none⟩ 1 1 [.int .i64 ((k : Int) + 2)] rfl rfl ?c1 ?c2 ?c3 ?c4 ?c5 ?_))
      case c1 => exact World.news_of_block (cs := #[.int .i64 ((k : Int) + 2)]) (t := 3) (fr := (0, 0)) (heap_alloc_new w3 _)
      case c2 => intro u hu; obtain rfl : u = .int .i64 ((k : Int) + 2) := by simpa using hu
                 rfl
      case c3 => unfold maxLen; omega
      case c4 => omega
      case c5 => have := HR3.out.2.2.2.1.size; simp; omega
      intro v4 w4 hown4 hgrow4 _
      rw [ats_next] at hown4
      have hfs4 := FSAt.row (HR3.out.1.alloc (.cells #[.int .i64 ((k : Int) + 2)] 3)) (HR3.out.2.1.alloc _) hgrow4
      have hb4 : Below w.heap.size w w4 := (HR3.out.2.2.2.1.alloc HR3.out.2.2.2.1.size (.cells #[.int .i64 ((k : Int) + 2)] 3)).grown hgrow4 (by simp; have := HR3.out.2.2.2.1.size; omega) (fun y hy => (HR3.out.2.1.lt y hy).1)
      have HR4 := Lib.hid (And.intro hfs4 (And.intro hown4 hb4))
      clear hfs4 hown4 hb4 hgrow4
      go_wp2_with fail
      go_roundw
      case rel => exact ⟨k + 1, _, by omega, by go_num, HR4.out.1, HR3.out.2.2.2.2, HR3.out.2.2.1, HR4.out.2.1, HR4.out.2.2⟩
      case measure => simp [intOf]; omega
    · obtain rfl : k = N + 2 := by omega
      have hcI := ats_cell HR.out.row (m := I) (by omega)
      have hcJ : wr.cell? ⟨g, J + 1, none⟩ = some (.int .i64 ((J : Int) + 2)) := by
        have := ats_cell HR.out.row (m := J + 1) (by omega)
        rw [this]; congr 2
      have hclk : A.clock = (N : Int) + 2 := by rw [HR.out.chain.clock]; push_cast; rfl
      have cC : ∀ (w : World), FSAt w A → Calls Try.prog 10 #[.pointer (some ⟨fb0, 0, none⟩)] w fun e w' => e = .returned (.int .i64 ((N : Int) + 2)) ∧ w = w' := fun w h => by
        have := clock_any h
        unfold FSA.fp at this
        rwa [HR.out.fb, hclk] at this
      clear hcell hlt
      have hx1 : (0 : Int) ≤ (I : Int) := by omega
      have hx2 : (I : Int) < (N : Int) + 2 + 1 := by omega
      have hx2' : (I : Int) < (N : Int) + 3 := by omega
      have hx3 : (0 : Int) ≤ (J : Int) + 1 := by omega
      have hx4 : (J : Int) + 1 < (N : Int) + 2 + 1 := by omega
      have hx4' : (J : Int) + 1 < (N : Int) + 3 := by omega
      have hx5 : IntKind.i64.wrap ((J : Int) + 1) = (J : Int) + 1 := IntWalk.i64_in _ (by omega)
      have hx6 : ((J : Int) + 1).toNat = J + 1 := by omega
      by_cases hIJ : I ≤ J
      · have cM := fun q => HR.out.chain.loops (FSAt.drewN HR.out.fs q) hI hJ hIJ
        unfold FSA.fp sD sE at cM
        simp only [HR.out.fb] at cM
        have hIJ' : (I : Int) ≤ (J : Int) := by omega
        go_wp2_with (go_at_call 10; refine (cC _ HR.out.fs).mono ?_; rintro e w' ⟨rfl, rfl⟩)
        go_region_held3 (fun w' => w'.cell? ⟨g, I, none⟩ = some (.int .i64 ((I : Int) + 1)) ∧ w'.cell? ⟨g, J + 1, none⟩ = some (.int .i64 ((J : Int) + 2))) (first | exact kb1 | go_keep)
          (first | (go_at_call 11; refine (cM _).mono ?_; rintro e w4 ⟨rfl, hb4⟩; have kb1 := And.intro ((hb4.cell (p := ⟨g, I, none⟩) hg1).trans hcI) ((hb4.cell (p := ⟨g, J + 1, none⟩) hg1).trans hcJ)))
        have hf4 : FSAt w4 A := FSAt.below (FSAt.drewN HR.out.fs _) hb4
        have hbw4 : Below w.heap.size w w4 := (belowN HR.out.below _).trans (hb4.mono HR.out.below.size)
        go_wp2_with (first | (go_at_call 10; refine (cC _ hf4).mono ?_; rintro e w' ⟨rfl, rfl⟩) | (go_at_call 12; refine (awake_any _).mono ?_; rintro e w5 ⟨rfl, hb5⟩))
        go_ret
        exact ⟨rfl, hbw4.trans (hb5.mono hbw4.size)⟩
      · have hJI : J < I := by omega
        have cM := fun q => HR.out.chain.moves (FSAt.drewN HR.out.fs q) hI hJI (by omega)
        unfold FSA.fp sD sE at cM
        simp only [HR.out.fb] at cM
        have hIJ' : ¬ (I : Int) ≤ (J : Int) := by omega
        go_wp2_with (go_at_call 10; refine (cC _ HR.out.fs).mono ?_; rintro e w' ⟨rfl, rfl⟩)
        go_region_held3 (fun w' => w'.cell? ⟨g, I, none⟩ = some (.int .i64 ((I : Int) + 1)) ∧ w'.cell? ⟨g, J + 1, none⟩ = some (.int .i64 ((J : Int) + 2))) (first | exact kb1 | go_keep)
          (first | (go_at_call 11; refine (cM _).mono ?_; rintro e w4 ⟨rfl, A', h4, hM, hf4⟩; have kb1 := moves_cells HR.out.fs HR.out.row hI hJ hf4))
        have hrow4 := row_frm (FSAt.drewN HR.out.fs _) (w := wr.drewN _) HR.out.row hf4
        have hbw4 := HR.out.chain.above.frm hf4 (belowN HR.out.below _) (Nat.le_refl _)
        have hclk4 : A'.clock = (N : Int) + 2 + 1 := by rw [hM.clock, hclk]
        have hfb4 : A'.fb = fb0 := hM.fb.trans HR.out.fb
        have cC4 : ∀ (w : World), FSAt w A' → Calls Try.prog 10 #[.pointer (some ⟨fb0, 0, none⟩)] w fun e w' => e = .returned (.int .i64 ((N : Int) + 2 + 1)) ∧ w = w' := fun w h => by
          have := clock_any h
          unfold FSA.fp at this
          rwa [hfb4, hclk4] at this
        obtain ⟨x, hx, hxc⟩ := hM.mark
        rw [hclk] at hxc
        have cS := stat_any h4 ((I : Int) + 2)
        rw [show A'.stat ((I : Int) + 2) = (x.n, 0) by simp [FSA.stat, hx]] at cS
        unfold FSA.fp ANode.val at cS
        rw [hfb4, hxc] at cS
        have cF1 := find_any h4 ((J : Int) + 2) sE
        rw [hM.there] at cF1
        unfold FSA.fp sE at cF1
        rw [hfb4] at cF1
        have k2 := ats_cell hrow4 (m := I) (by omega)
        have k3 : w4.cell? ⟨g, J + 1, none⟩ = some (.int .i64 ((J : Int) + 2)) := by
          have := ats_cell hrow4 (m := J + 1) (by omega)
          rw [this]; congr 2
        have k4 : w4.cell? ⟨g, I + 1, none⟩ = some (.int .i64 ((I : Int) + 2)) := by
          have := ats_cell hrow4 (m := I + 1) (by omega)
          rw [this]; congr 2
        have hg4 : g < w4.heap.size := World.block_lt_of_cell? w4 _ k2
        have hy3 : (0 : Int) ≤ (I : Int) + 1 := by omega
        have hy4 : (I : Int) + 1 < (N : Int) + 2 + 1 := by omega
        have hy4' : (I : Int) + 1 < (N : Int) + 3 := by omega
        have hy5 : IntKind.i64.wrap ((I : Int) + 1) = (I : Int) + 1 := IntWalk.i64_in _ (by omega)
        have hy6 : ((I : Int) + 1).toNat = I + 1 := by omega
        have hy7 : IntKind.i64.wrap ((N : Int) + 2 + 1) = (N : Int) + 2 + 1 := IntWalk.i64_in _ (by omega)
        by_cases hd : I = J + 1
        · have hd' : ((I : Int) != (J : Int) + 1) = false := by simp; omega
          have cF2 := find_any h4 ((I : Int) + 1) sD
          generalize A'.find ((I : Int) + 1) sD = pq at cF2
          obtain ⟨p2, q2⟩ := pq
          unfold FSA.fp sD at cF2
          rw [hfb4] at cF2
          have Hd := Lib.hid hd
          clear hd
          go_wp2_with fail
          refine cF1.mono ?_
          rintro e w' ⟨rfl, rfl⟩
          clear cF1
          go_wp2_with fail
          refine cF2.mono ?_
          rintro e w' ⟨rfl, rfl⟩
          clear cF2
          go_wp2_with fail
          refine cS.mono ?_
          rintro e w5 ⟨rfl, hb5⟩
          have k5 := (hb5.cell (p := ⟨g, I + 1, none⟩) hg4).trans k4
          have hg5 : g < w5.heap.size := World.block_lt_of_cell? w5 _ k5
          have H5 := Lib.hid (FSAt.below h4 hb5)
          have hbw5 := hbw4.trans (hb5.mono hbw4.size)
          clear k2 k3 k4 hg4 cS hb5 hcI hcJ
          go_wp2_with (first | (go_at_call 10; refine (cC4 _ (H5.out.alloc _)).mono ?_; rintro e w' ⟨rfl, rfl⟩) | (go_at_call 12; refine (awake_any _).mono ?_; rintro e w6 ⟨rfl, hb6⟩))
          go_ret
          exact ⟨rfl, (hbw5.alloc hbw5.size _).trans (hb6.mono (hbw5.alloc hbw5.size _).size)⟩
        · have hd' : ((I : Int) != (J : Int) + 1) = true := by simp; omega
          have cF2 := find_any h4 ((I : Int) + 1) sD
          rw [hM.gone hd] at cF2
          unfold FSA.fp sD at cF2
          rw [hfb4] at cF2
          have Hd := Lib.hid hd
          clear hd
          go_wp2_with fail
          refine cF1.mono ?_
          rintro e w' ⟨rfl, rfl⟩
          clear cF1
          go_wp2_with fail
          refine cF2.mono ?_
          rintro e w' ⟨rfl, rfl⟩
          clear cF2
          go_wp2_with fail
          refine cS.mono ?_
          rintro e w5 ⟨rfl, hb5⟩
          have k5 := (hb5.cell (p := ⟨g, I + 1, none⟩) hg4).trans k4
          have hg5 : g < w5.heap.size := World.block_lt_of_cell? w5 _ k5
          have H5 := Lib.hid (FSAt.below h4 hb5)
          have hbw5 := hbw4.trans (hb5.mono hbw4.size)
          clear k2 k3 k4 hg4 cS hb5 hcI hcJ
          go_wp2_with (first | (go_at_call 10; refine (cC4 _ (H5.out.alloc _)).mono ?_; rintro e w' ⟨rfl, rfl⟩) | (go_at_call 12; refine (awake_any _).mono ?_; rintro e w6 ⟨rfl, hb6⟩))
          go_ret
          exact ⟨rfl, (hbw5.alloc hbw5.size _).trans (hb6.mono (hbw5.alloc hbw5.size _).size)⟩
end Go.Proofs.Ytccfimgpbmkpiaa
