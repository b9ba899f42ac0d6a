/- portmanteaulaw13.TreeHoles: true. No conditions. -/
import Derived.Test.YtccfimgpbmkpiaaHoleEnd
import Derived.Laws.IdiomStrings
import Derived.Deep.CutRange
import Derived.Deep.QuietTactic
import Derived.BigQuiet
import Derived.Deep.CutBlock
import Derived.Deep.DeepCutAuto
namespace Go.Proofs.Ytccfimgpbmkpiaa
set_option linter.unusedVariables false
set_option linter.unusedSimpArgs false
set_option maxRecDepth 100000
open Go.RowKit Go.MapKept

theorem i64_and1023 (n : Int) : bits .and .i64 n 1023 = n % 1024 := by
  have h127 : (BitVec.ofInt 64 1023).toNat = 2 ^ 10 - 1 := by decide
  have key : (BitVec.ofInt 64 n &&& BitVec.ofInt 64 1023).toNat = (n % ((2 ^ 64 : Nat) : Int)).toNat % 2 ^ 10 := by
    rw [BitVec.toNat_and, BitVec.toNat_ofInt, h127, Nat.and_two_pow_sub_one_eq_mod]
  show IntKind.i64.wrap ((BitVec.ofInt 64 n &&& BitVec.ofInt 64 1023).toNat : Nat) = n % 1024
  rw [key, IntKind.wrap_i64]
  omega

theorem i64_and65535 (n : Int) : bits .and .i64 n 65535 = n % 65536 := by
  have h127 : (BitVec.ofInt 64 65535).toNat = 2 ^ 16 - 1 := by decide
  have key : (BitVec.ofInt 64 n &&& BitVec.ofInt 64 65535).toNat = (n % ((2 ^ 64 : Nat) : Int)).toNat % 2 ^ 16 := by
    rw [BitVec.toNat_and, BitVec.toNat_ofInt, h127, Nat.and_two_pow_sub_one_eq_mod]
  show IntKind.i64.wrap ((BitVec.ofInt 64 n &&& BitVec.ofInt 64 65535).toNat : Nat) = n % 65536
  rw [key, IntKind.wrap_i64]
  omega

theorem i64_and3 (n : Int) : bits .and .i64 n 3 = n % 4 := by
  have h127 : (BitVec.ofInt 64 3).toNat = 2 ^ 2 - 1 := by decide
  have key : (BitVec.ofInt 64 n &&& BitVec.ofInt 64 3).toNat = (n % ((2 ^ 64 : Nat) : Int)).toNat % 2 ^ 2 := by
    rw [BitVec.toNat_and, BitVec.toNat_ofInt, h127, Nat.and_two_pow_sub_one_eq_mod]
  show IntKind.i64.wrap ((BitVec.ofInt 64 n &&& BitVec.ofInt 64 3).toNat : Nat) = n % 4
  rw [key, IntKind.wrap_i64]
  omega

theorem conv_blk {w : World} {g n : Nat} {l : List UInt8} (h : Blk w g 5 (bytesA l)) (hl : l.length = n) : (convert 37 9 (.slice (some ⟨g, 0, none⟩) n n)).run Try.prog w = .ok (.string ⟨l.toArray⟩) w := by
  subst hl
  exact run_convert_bytes_back (P := Try.prog) w 37 9 5 ⟨g, 0, none⟩ l.length l Try.underlying37 Try.underlying5 Try.underlying9 (fun j hj => by
    have := bytesA_cell h (List.getElem?_eq_getElem hj)
    rw [show (⟨g, 0, none⟩ : Addr).add j = ⟨g, j, none⟩ from by simp [Addr.add]; omega]
    exact this)

set_option maxHeartbeats 12000000 in
theorem holes_any {w : World} (quota : Int) {OA : Option Addr} {on oc : Nat} {ops : List OpC} (hO : OpsAt w OA on ops) (hon : on ≤ 9223372036854775807) :
    Calls Try.prog 5 #[.int .i64 quota, .slice OA on oc] w fun e w' => e = .returned (.bool true) ∧ Below w.heap.size w w' := by
  obtain ⟨q, hq, hq2⟩ : ∃ q : Nat, bits .and .i64 quota 1023 = (q : Int) ∧ q ≤ 1023 := ⟨(quota % 1024).toNat, by rw [i64_and1023]; omega, by omega⟩
  have HO := Lib.hid hO
  clear hO
  go_enter Try.func5, Try.ntmps5
  go_wp2_with fail
  refine (new_any (q : Int) w).mono ?_
  rintro e w1 ⟨rfl, h1, hb1⟩
  unfold FSA.fp
  have cM := hole_make h1 hb1 (Nat.le_refl _)
  unfold FSA.fp ANode.val nF at cM
  go_wp2_with fail
  refine cM.mono ?_
  rintro e w2 ⟨A1, rfl, h2, hH2, hb2, hfb2⟩
  have H2 := Lib.hid (And.intro h2 (And.intro hH2 (And.intro hb2 hfb2)))
  clear h1 hb1 cM h2 hH2 hb2 hfb2
  obtain ⟨fb0, hfb0⟩ : ∃ x, x = (FSA.new w.heap.size (q : Int)).fb := ⟨_, rfl⟩
  obtain ⟨bi, hbi⟩ : ∃ x, x = w2.heap.size := ⟨_, rfl⟩
  have hbw : w.heap.size ≤ bi := by rw [hbi]; exact H2.out.2.2.1.size
  have R0 := holes_start H2.out.1 H2.out.2.1 H2.out.2.2.1 (by rw [hfb0]; exact H2.out.2.2.2 : A1.fb = fb0) hbi
  have HR0 := Lib.hid R0
  have hfb0x := hfb0
  have hbix := hbi
  clear H2 R0 hfb0 hbi
  go_upto_block 0 with fail
  rw [← hfb0x, ← hbix]
  clear hfb0x hbix
  go_cut [10, 11] from 12 (fun sz us wx => ∃ k A S l c isL cL i, HolesRel w fb0 q bi sz us i wx k A S l c isL cL)
  case first =>
   as_aux_lemma =>
    go_wp2_with fail
    go_loopw [10, 11, 12] (fun sz us i wr => ∃ k A S l c isL cL, HolesRel w fb0 q bi sz us i wr k A S l c isL cL) (fun _ _ i _ => 40 - (intOf i).toNat)
    case atStart => exact ⟨0, A1, 0, [], 1, _, _, HR0.out⟩
    case round =>
      obtain ⟨k, A, S, l, c, isL, cL, R⟩ := hrel
      obtain rfl := R.sz
      obtain rfl := R.us
      obtain rfl := R.i
      have hk := R.le
      have HR := Lib.hid R
      clear R HR0
      by_cases hlt : k < on ∧ k < 40
      · obtain ⟨hlt1, hlt2⟩ := hlt
        have hlt1' : (k : Int) < (on : Int) := by omega
        obtain ⟨og, oo, hOA, hog, hcell⟩ := HO.out.2.1 (by omega)
        subst hOA
        have hkl : k < ops.length := by rw [HO.out.1]; exact hlt1
        have hcs : ∀ j, j < 20 → wr.cell? ⟨og, oo + k * 20 + j, none⟩ = ops[k].cells[j]? := fun j hj => (HR.out.below.cell (p := ⟨og, oo + k * 20 + j, none⟩) hog).trans (hcell k hkl j hj)
        have hok := HO.out.2.2 _ (List.getElem_mem hkl)
        have hogr : og < wr.heap.size := Nat.lt_of_lt_of_le hog HR.out.below.size
        generalize ops[k] = op at *
        have e0 : op.cells[0]? = some (.int .i64 op.kind) := rfl
        have e3 : op.cells[3]? = some (.int .i64 op.at_) := rfl
        have e18 : op.cells[18]? = some (.slice op.ad op.len op.cap) := rfl
        have hws : wr.heap.size < (wr.alloc (.cells op.cells.toArray 47)).heap.size := by simp
        have HOk := Lib.hid hok
        have HCs := Lib.hid hcs
        clear hcs hcell hok
        go_upto_region 15 with (first | (refine wpList_load_op (op := ⟨some 54, _, _, _, _, _⟩) rfl (.tmp 53) rfl og (oo + k * 20) rfl op HCs.out ?_) | (refine wpList_store_op (op := ⟨none, .store 47 (.tmp 13) (.tmp 54), _, _, _, _⟩) rfl (.tmp 13) (.tmp 54) rfl op _ rfl rfl rfl ?_))
        have hbw1 : Below w.heap.size w (wr.alloc (.cells op.cells.toArray 47)) := HR.out.below.alloc HR.out.below.size _
        obtain ⟨wa, hwa⟩ : ∃ x, x = wr.alloc (.cells op.cells.toArray 47) := ⟨_, rfl⟩
        have hopB : Blk wa wr.heap.size 47 op.cells.toArray := by rw [hwa]; exact Blk.new wr 47 _
        have hfsa : FSAt wa A := by rw [hwa]; exact HR.out.fs.alloc _
        have hisB : Blk wa bi 44 (bools isL) := by rw [hwa]; exact HR.out.isB.alloc _
        have hcsB : Blk wa (bi + 1) 45 (bytesA cL) := by rw [hwa]; exact HR.out.csB.alloc _
        have hob1 : wr.heap.size ≠ bi := fun e => absurd HR.out.isB.lt (by omega)
        have hob2 : wr.heap.size ≠ bi + 1 := fun e => absurd HR.out.csB.lt (by omega)
        have hbwa : Below w.heap.size w wa := by rw [hwa]; exact hbw1
        rw [← hwa]
        obtain ⟨ob, hob⟩ : ∃ x, x = wr.heap.size := ⟨_, rfl⟩
        rw [← hob] at hopB hob1 hob2
        rw [← hob]
        have c0 : wa.cell? ⟨ob, 0, none⟩ = some (.int .i64 op.kind) := hopB.cell 0
        have c3 : wa.cell? ⟨ob, 3, none⟩ = some (.int .i64 op.at_) := hopB.cell 3
        have c18 : wa.cell? ⟨ob, 18, none⟩ = some (.slice op.ad op.len op.cap) := hopB.cell 18
        have HA := Lib.hid (And.intro hfsa (And.intro hisB (And.intro hcsB (And.intro hopB hbwa))))
        clear e0 e3 e18 hws hbw1 hwa hopB hfsa hisB hcsB hbwa hob
        by_cases h80 : op.len ≤ 80
        · have h80' : ¬ (80 : Int) < (op.len : Int) := by omega
          obtain ⟨X, hX⟩ : ∃ X : Nat, bits .and .i64 op.at_ 65535 = (X : Int) := ⟨(op.at_ % 65536).toNat, by rw [i64_and65535]; omega⟩
          obtain ⟨a, ha, ha2⟩ : ∃ a : Nat, (X : Int) % 1000 = (a : Int) ∧ a ≤ 999 := ⟨X % 1000, by omega, by omega⟩
          obtain ⟨Y, hY⟩ : ∃ Y : Nat, bits .and .i64 op.kind 3 = (Y : Int) := ⟨(op.kind % 4).toNat, by rw [i64_and3]; omega⟩
          by_cases hy : Y = 0
          · have hy' : ((Y : Int) == 0) = true := by simp [hy]
            have HY := Lib.hid hy
            clear hy
            have cG := hole_grow HA.out.1 HR.out.hole hq2 HR.out.c0 (by have := HR.out.c1; omega) a (by omega) HA.out.2.2.2.2 (Nat.le_refl _)
            unfold FSA.fp at cG
            rw [HR.out.fb] at cG
            go_wp2_with fail
            refine cG.mono ?_
            rintro e w3 ⟨rfl, A3, h3, hfb3, hH3, hb3, hf3⟩
            have R3 := Lib.hid (CutRel.mk (w := w) (fb := fb0) (q := q) (bi := bi) (a := a) (us := .int .i64 (l.length : Int)) (i := .int .i64 (a : Int)) (wr := w3) (k := a) (u := l.length) (A := A3) (l := l) (c := c + 1) (isL := isL) (cL := cL) rfl rfl (Nat.le_refl _) (by omega) (by simp [cnt]) h3 hfb3 hH3 ⟨HR.out.marks.li, fun i hi => by
              have h0 : ¬ (a ≤ i ∧ i < a) := by omega
              rw [HR.out.marks.is_ i hi, decide_eq_false h0]; simp⟩ (arr_frm HA.out.1 HA.out.2.1 arr_far.1.1 arr_far.1.2.1 hf3) (arr_frm HA.out.1 HA.out.2.2.1 arr_far.2.1 arr_far.2.2.1 hf3) hb3)
            clear cG h3 hfb3 hH3 hb3 hf3
            go_wp2_with fail
            obtain ⟨wo, hwo⟩ : ∃ wo : World, wo = wr := ⟨_, rfl⟩
            go_loopw [11, 15] (fun us i wr => ∃ k u A isL, CutRel w fb0 q bi a us i wr k u A l (c + 1) isL cL) (fun _ i _ => 1100 - (intOf i).toNat)
            case atStart => exact ⟨a, l.length, A3, isL, R3.out⟩
            case round =>
              obtain ⟨k2, u2, A4, isL4, R⟩ := hrel
              obtain rfl := R.us
              obtain rfl := R.i
              have hk2 := R.ge
              have hbiF := R.isB.frozen k2
              have HC := Lib.hid R
              clear R R3
              by_cases hk3 : k2 < 1100
              · have hc := bools_cell HC.out.isB (HC.out.clr.at_ hk3)
                have hcn := HC.out.cnt
                have hll := HR.out.hole.le
                have hcells := Lib.hid HR.out.hole.cells
                cases hh : hasF l (k2 : Int) with
                | true =>
                  rw [hh] at hc
                  have hu1 := HC.out.pos hk3 HR.out.hole.nodup hcells.out hh
                  have HH := Lib.hid hh
                  clear hh
                  go_wp2_with fail
                  go_roundw
                  case rel => exact ⟨k2 + 1, u2 - 1, A4, _, HC.out.step hk3 hbw (u' := u2 - 1) (by rw [HH.out, if_pos rfl]; omega) (by go_num) rfl⟩
                  case measure => simp [intOf]; omega
                | false =>
                  rw [hh] at hc
                  have HH := Lib.hid hh
                  clear hh
                  go_wp2_with fail
                  go_roundw
                  case rel => exact ⟨k2 + 1, u2, A4, _, HC.out.step hk3 hbw (u' := u2) (by rw [HH.out]; rfl) rfl rfl⟩
                  case measure => simp [intOf]; omega
              · obtain rfl : k2 = 1100 := by omega
                have hcells := Lib.hid HR.out.hole.cells
                have hd := HC.out.done (k := k) HR.out.marks HR.out.hole.nodup hcells.out hlt2 (by have := HR.out.c0; omega) (by have := HR.out.c1; omega)
                have HD := Lib.hid hd
                clear hd
                go_wp2_with fail
                go_roundw
                case rel => first | exact ⟨k + 1, A4, a, _, c + 1, isL4, cL, HD.out⟩ | ((repeat apply Exists.intro); exact ⟨⟨k + 1, A4, a, _, c + 1, isL4, cL, HD.out⟩, rfl⟩)
                case measure => simp [intOf]; omega
          · have hy' : ((Y : Int) == 0) = false := by simp; omega
            have hbl : op.bs.length = op.len := HOk.out.bytes.1
            have R3 := Lib.hid (PutRel.mk (w := w) (fb := fb0) (q := q) (bi := bi) (a := a) (len := op.len) (ob := ob) (opc := op.cells.toArray) (b := op.bs) (us := .int .i64 (l.length : Int)) (i := .int .i64 ((0 : Nat) : Int)) (wr := wa) (n := 0) (m := 0) (u := l.length) (A := A) (S := S) (l := l) (c := c) (cs0 := cL) (isL := isL) (cL := cL) rfl rfl rfl (Nat.zero_le _) HR.out.hole.le (by simp) (by simp) HA.out.1 HR.out.fb HR.out.hole (Put.start HR.out.marks a op.bs) HA.out.2.1 HA.out.2.2.1 HA.out.2.2.2.1 HA.out.2.2.2.2)
            have HBl := Lib.hid hbl
            clear hbl
            go_wp2_with fail
            clear c0 c3
            obtain ⟨wo, hwo⟩ : ∃ wo : World, wo = wr := ⟨_, rfl⟩
            go_loopw [11, 16] (fun us i wr => ∃ n m u isL4 cL4, PutRel w fb0 q bi a op.len ob op.cells.toArray op.bs us i wr n m u A S l c cL isL4 cL4) (fun _ i _ => 80 - (intOf i).toNat)
            case atStart => exact ⟨0, 0, l.length, isL, cL, R3.out⟩
            case round =>
              obtain ⟨n, m, u, isL4, cL4, R⟩ := hrel
              obtain rfl := R.us
              obtain rfl := R.i
              have hn := R.le
              have hc18 : wr.cell? ⟨ob, 18, none⟩ = some (.slice op.ad op.len op.cap) := R.opB.cell 18
              have his := bools_cell R.isB (R.put.at_ (by omega))
              have HP := Lib.hid R
              have hll := HR.out.hole.le
              clear R R3
              have hx1 : (0 : Int) ≤ (a : Int) + (n : Int) := by omega
              have hx2 : (a : Int) + (n : Int) < 1100 := by omega
              by_cases hnl : n < op.len
              · have hnl' : (n : Int) < (op.len : Int) := by omega
                obtain ⟨dg, dO, dcs, dt, dfr, had, ⟨_, hdg⟩, hdc⟩ := HOk.out.bytes.2.2 (by omega)
                have hdlt := HOk.out.lt dg dO none had (by omega)
                rw [had] at hc18
                have hnb : n < op.bs.length := by rw [HBl.out]; exact hnl
                have hbyte : wr.cell? ⟨dg, dO + n, none⟩ = some (.int .u8 ((op.bs[n]).toNat : Int)) := (HP.out.below.cell (p := ⟨dg, dO + n, none⟩) hdlt).trans ((cell_of_row w dg (dO + n) dcs dt dfr hdg).trans (hdc n hnb))
                obtain ⟨bv, hbv⟩ : ∃ v : Int, v = ((op.bs[n]).toNat : Int) := ⟨_, rfl⟩
                rw [← hbv] at hbyte
                have HBv := Lib.hid hbv
                clear hbv
                have hcc : ∃ v, wr.cell? ⟨bi + 1, a + n, none⟩ = some v := by
                  have hlt : a + n < cL4.length := by rw [HP.out.put.lc]; omega
                  exact ⟨_, bytesA_cell HP.out.csB (List.getElem?_eq_getElem hlt)⟩
                obtain ⟨cv, hcv⟩ := hcc
                have hf1 := HP.out.isB.frozen (a + n)
                have hf2 := HP.out.csB.frozen (a + n)
                have hd1 : dg ≠ bi := by omega
                have hd2 : dg ≠ bi + 1 := by omega
                have hd3 : bi ≠ dg := by omega
                have hd4 : bi + 1 ≠ dg := by omega
                have ho3 : bi ≠ ob := fun e => hob1 e.symm
                have ho4 : bi + 1 ≠ ob := fun e => hob2 e.symm
                have Had := Lib.hid had
                have HNb := Lib.hid hnb
                have HDc := Lib.hid hdc
                clear had hdc hdg
                cases hh : hasF l ((a + n : Nat) : Int) with
                | true =>
                  rw [hh] at his
                  have HH := Lib.hid hh
                  clear hh
                  have hxw : IntKind.i64.wrap ((a : Int) + (n : Int)) = (a : Int) + (n : Int) := IntWalk.i64_in _ (by omega)
                  have hxt : ((a : Int) + (n : Int)).toNat = a + n := by omega
                  go_wp2_with fail
                  go_region_held3 (fun w' => w'.cell? ⟨ob, 18, none⟩ = some (.slice (some ⟨dg, dO, none⟩) op.len op.cap) ∧ w'.cell? ⟨dg, dO + n, none⟩ = some (.int .u8 bv)) (go_keep) (fail)
                  clear hxw hxt
                  go_wp2_with fail
                  go_roundw
                  case rel => exact ⟨n + 1, m, u, _, _, by rw [HBv.out]; exact (HP.out.step hnl HBl.out (by omega) hbw hob1 hob2 (Or.inl ⟨HH.out, rfl, rfl⟩) rfl rfl).drew⟩
                  case measure => simp [intOf]; omega
                | false =>
                  rw [hh] at his
                  have HH := Lib.hid hh
                  clear hh
                  by_cases huq : u < q
                  · have huq' : (u : Int) < (q : Int) := by omega
                    have hxw : IntKind.i64.wrap ((a : Int) + (n : Int)) = (a : Int) + (n : Int) := IntWalk.i64_in _ (by omega)
                    have hxt : ((a : Int) + (n : Int)).toNat = a + n := by omega
                    go_wp2_with fail
                    go_region_held3 (fun w' => w'.cell? ⟨ob, 18, none⟩ = some (.slice (some ⟨dg, dO, none⟩) op.len op.cap) ∧ w'.cell? ⟨dg, dO + n, none⟩ = some (.int .u8 bv)) (go_keep) (fail)
                    clear hxw hxt
                    go_wp2_with fail
                    go_roundw
                    case rel => exact ⟨n + 1, m + 1, u + 1, _, _, by rw [HBv.out]; exact (HP.out.step hnl HBl.out (by omega) hbw hob1 hob2 (Or.inr ⟨HH.out, huq, rfl, rfl⟩) (by go_num) rfl).drew⟩
                    case measure => simp [intOf]; omega
                  · have huq' : ¬ (u : Int) < (q : Int) := by omega
                    have hst := HP.out.stop (Or.inr ⟨hnl, HH.out, by omega⟩)
                    have cW := hole_write HP.out.fs HP.out.hole hq2 HR.out.c0 (by have := HR.out.c1; omega) a (B := op.ad) (n := op.len) (bc := op.cap) (bs := op.bs) (HOk.out.bytes.keep (KeepT.of_below HP.out.below)) (by omega) HP.out.below (Nat.le_refl _)
                    unfold HoleWrote FSA.fp at cW
                    rw [HP.out.fb, hst.1, if_pos hnl] at cW
                    have hqe : ((n : Int) == (op.len : Int)) = false := beq_eq_false_iff_ne.2 (by omega)
                    have HSt := Lib.hid hst
                    have hc18x : wr.cell? ⟨ob, 18, none⟩ = some (.slice op.ad op.len op.cap) := HP.out.opB.cell 18
                    clear hst hc18
                    go_wp2_with fail
                    refine cW.mono ?_
                    rintro e w6 ⟨rfl, A6, c6, h6, hfb6, hH6, hc6a, hc6b, hb6, hf6⟩
                    have hop6 : Blk w6 ob 47 op.cells.toArray := arr_frm HP.out.fs HP.out.opB (by decide) (by decide) hf6
                    have hc6 : w6.cell? ⟨ob, 18, none⟩ = some (.slice op.ad op.len op.cap) := hop6.cell 18
                    have hfin := fun (sz : Value) (hsz : sz = .int .i64 ((if 0 < n then max S (a + n) else S : Nat) : Int)) => HP.out.finish HSt.out.1 HSt.out.2 HR.out.marks HBl.out (by omega) HR.out.sle h6 hfb6 hH6 (arr_frm HP.out.fs HP.out.isB arr_far.1.1 arr_far.1.2.1 hf6) (arr_frm HP.out.fs HP.out.csB arr_far.2.1 arr_far.2.2.1 hf6) hb6 hlt2 (by have := HR.out.c0; omega) (by have := HR.out.c1; omega) hsz
                    have HFin := Lib.hid hfin
                    clear hfin h6 hfb6 hH6 hb6 hf6 hop6 cW hc18x his
                    by_cases hn0 : 0 < n
                    · have hn0' : (0 : Int) < (n : Int) := by omega
                      go_wp2_with fail
                      obtain ⟨S', l', hr⟩ := HFin.out (.int .i64 (max (S : Int) ((a : Int) + (n : Int)))) (by rw [if_pos hn0]; congr 1; omega)
                      go_roundw
                      case rel => first | exact ⟨k + 1, A6, S', l', c6, isL4, cL4, hr⟩ | ((repeat apply Exists.intro); exact ⟨⟨k + 1, A6, S', l', c6, isL4, cL4, hr⟩, rfl⟩)
                      case measure => simp [intOf]; omega
                    · have hn0' : ¬ (0 : Int) < (n : Int) := by omega
                      go_wp2_with fail
                      obtain ⟨S', l', hr⟩ := HFin.out (.int .i64 (S : Int)) (by rw [if_neg hn0])
                      go_roundw
                      case rel => first | exact ⟨k + 1, A6, S', l', c6, isL4, cL4, hr⟩ | ((repeat apply Exists.intro); exact ⟨⟨k + 1, A6, S', l', c6, isL4, cL4, hr⟩, rfl⟩)
                      case measure => simp [intOf]; omega
              · have hnl' : ¬ (n : Int) < (op.len : Int) := by omega
                have hnE : n = op.len := by omega
                have hst := HP.out.stop (Or.inl hnE)
                have cW := hole_write HP.out.fs HP.out.hole hq2 HR.out.c0 (by have := HR.out.c1; omega) a (B := op.ad) (n := op.len) (bc := op.cap) (bs := op.bs) (HOk.out.bytes.keep (KeepT.of_below HP.out.below)) (by omega) HP.out.below (Nat.le_refl _)
                unfold HoleWrote FSA.fp at cW
                rw [HP.out.fb, hst.1, if_neg (by omega)] at cW
                have hqe : ((n : Int) == (op.len : Int)) = true := beq_iff_eq.2 (by omega)
                have HSt := Lib.hid hst
                have hc18x : wr.cell? ⟨ob, 18, none⟩ = some (.slice op.ad op.len op.cap) := HP.out.opB.cell 18
                clear hst hc18
                have HnE := Lib.hid hnE
                clear hnE
                go_wp2_with fail
                refine cW.mono ?_
                rintro e w6 ⟨rfl, A6, c6, h6, hfb6, hH6, hc6a, hc6b, hb6, hf6⟩
                have hop6 : Blk w6 ob 47 op.cells.toArray := arr_frm HP.out.fs HP.out.opB (by decide) (by decide) hf6
                have hc6 : w6.cell? ⟨ob, 18, none⟩ = some (.slice op.ad op.len op.cap) := hop6.cell 18
                have hfin := fun (sz : Value) (hsz : sz = .int .i64 ((if 0 < n then max S (a + n) else S : Nat) : Int)) => HP.out.finish HSt.out.1 HSt.out.2 HR.out.marks HBl.out (by omega) HR.out.sle h6 hfb6 hH6 (arr_frm HP.out.fs HP.out.isB arr_far.1.1 arr_far.1.2.1 hf6) (arr_frm HP.out.fs HP.out.csB arr_far.2.1 arr_far.2.2.1 hf6) hb6 hlt2 (by have := HR.out.c0; omega) (by have := HR.out.c1; omega) hsz
                have HFin := Lib.hid hfin
                clear hfin h6 hfb6 hH6 hb6 hf6 hop6 cW hc18x his
                by_cases hn0 : 0 < n
                · have hn0' : (0 : Int) < (n : Int) := by omega
                  go_wp2_with fail
                  obtain ⟨S', l', hr⟩ := HFin.out (.int .i64 (max (S : Int) ((a : Int) + (n : Int)))) (by rw [if_pos hn0]; congr 1; omega)
                  go_roundw
                  case rel => first | exact ⟨k + 1, A6, S', l', c6, isL4, cL4, hr⟩ | ((repeat apply Exists.intro); exact ⟨⟨k + 1, A6, S', l', c6, isL4, cL4, hr⟩, rfl⟩)
                  case measure => simp [intOf]; omega
                · have hn0' : ¬ (0 : Int) < (n : Int) := by omega
                  go_wp2_with fail
                  obtain ⟨S', l', hr⟩ := HFin.out (.int .i64 (S : Int)) (by rw [if_neg hn0])
                  go_roundw
                  case rel => first | exact ⟨k + 1, A6, S', l', c6, isL4, cL4, hr⟩ | ((repeat apply Exists.intro); exact ⟨⟨k + 1, A6, S', l', c6, isL4, cL4, hr⟩, rfl⟩)
                  case measure => simp [intOf]; omega
        · have h80' : (80 : Int) < (op.len : Int) := by omega
          go_wp2_with (go_at_call 12; refine (awake_any _).mono ?_; rintro e w5 ⟨rfl, hb5⟩)
          go_ret
          exact ⟨rfl, HA.out.2.2.2.2.trans (hb5.mono HA.out.2.2.2.2.size)⟩
      · have hex : ¬ (k : Int) < (on : Int) ∨ ¬ (k : Int) < 40 := by omega
        by_cases hko : (k : Int) < (on : Int)
        · have hk4 : ¬ (k : Int) < 40 := by omega
          go_wp2_with fail
          go_meet
          case rel => exact ⟨k, A, S, l, c, isL, cL, _, HR.out⟩
        · go_wp2_with fail
          go_meet
          case rel => exact ⟨k, A, S, l, c, isL, cL, _, HR.out⟩
  case rest =>
   as_aux_lemma =>
    obtain ⟨k0, A, S, l, c, isL, cL, i0, R⟩ := hcut
    obtain ⟨wz, rfl⟩ : ∃ x : World, x = wc := ⟨_, rfl⟩
    obtain rfl := R.sz
    obtain rfl := R.us
    have hsle := R.sle
    have hmk := make_n S (by omega)
    have HR := Lib.hid R
    clear R HR0
    go_wp2_with fail
    have hW0 : Blk (wz.alloc (.cells (List.replicate S (Value.int .u8 0)).toArray 5)) wz.heap.size 5 (bytesA (wantP isL cL S 0)) := by rw [wantP_zero]; exact Blk.new wz 5 _
    have HW0 := Lib.hid hW0
    have hbw3 : Below wz.heap.size wz (wz.alloc (.cells (List.replicate S (Value.int .u8 0)).toArray 5)) := (Below.refl _ wz).alloc (Nat.le_refl _) _
    clear hW0 hmk
    go_loopw [19] (fun i wr => ∃ k : Nat, k ≤ S ∧ i = .int .i64 k ∧ Hid (Blk wr wz.heap.size 5 (bytesA (wantP isL cL S k))) ∧ Below wz.heap.size wz wr) (fun i _ => S - (intOf i).toNat)
    case atStart => exact ⟨0, Nat.zero_le _, rfl, HW0, hbw3⟩
    case round =>
      obtain ⟨k, hk, rfl, hW, hb⟩ := hrel
      have hlt1 := HR.out.isB.lt
      have hlt2 := HR.out.csB.lt
      by_cases hks : k < S
      · obtain ⟨bv, hbv⟩ : ∃ b, isL[k]? = some b := ⟨_, List.getElem?_eq_getElem (by rw [HR.out.marks.li]; omega)⟩
        obtain ⟨cv, hcv⟩ : ∃ b, cL[k]? = some b := ⟨_, List.getElem?_eq_getElem (by rw [HR.out.marks.lc]; omega)⟩
        have hcb := (hb.cell (p := ⟨bi, k, none⟩) hlt1).trans (bools_cell HR.out.isB hbv)
        have hcc := (hb.cell (p := ⟨bi + 1, k, none⟩) hlt2).trans (bytesA_cell HR.out.csB hcv)
        have hwl : k < (wantP isL cL S k).length := by simp [wantP]; exact hks
        have hwcell := bytesA_cell hW.out (List.getElem?_eq_getElem hwl)
        have hwf := hW.out.frozen k
        have HBV := Lib.hid hbv
        have HCV := Lib.hid hcv
        have hks1 : (k : Int) < 1100 := by omega
        obtain ⟨cn, hcn⟩ : ∃ n : Int, n = (cv.toNat : Int) := ⟨_, rfl⟩
        rw [← hcn] at hcc
        have HCN := Lib.hid hcn
        generalize (wantP isL cL S k)[k] = ov at hwcell
        clear hbv hcv hlt1 hlt2 hwl hcn HW0 hbw3
        cases bv with
        | false =>
          have hW2 : Hid (Blk wr wz.heap.size 5 (bytesA (wantP isL cL S (k + 1)))) := by rw [wantP_no HBV.out]; exact hW
          clear hW
          go_wp2_with fail
          go_roundw
          case rel => exact ⟨k + 1, by omega, by go_num, hW2, hb⟩
          case measure => simp [intOf]; omega
        | true =>
          have hW2 : Hid (Blk (wr.setCell ⟨wz.heap.size, k, none⟩ (.int .u8 cn)) wz.heap.size 5 (bytesA (wantP isL cL S (k + 1)))) := by
            rw [wantP_yes HBV.out hks HCV.out, HCN.out]; exact Lib.hid (bytesA_set hW.out k cv)
          have hb2 := hb.setCell (p := ⟨wz.heap.size, k, none⟩) (Nat.le_refl _) (.int .u8 cn)
          clear hW
          go_wp2_with fail
          go_roundw
          case rel => exact ⟨k + 1, by omega, by go_num, hW2, hb2⟩
          case measure => simp [intOf]; omega
      · have hkS : k = S := by omega
        have HWl : Hid (Blk wr wz.heap.size 5 (bytesA (wantL isL cL S))) := by have h := hW; rw [hkS, wantP_all] at h; exact h
        clear hW HW0 hbw3 hlt1 hlt2
        have HKS := Lib.hid hkS
        clear hkS
        have hfs := HR.out.fs.below hb
        have cRd := hole_read (w0 := wz) hfs HR.out.hole hsle HR.out.marks
        unfold FSA.fp at cRd
        rw [HR.out.fb] at cRd
        have HFS := Lib.hid hfs
        clear hfs
        go_wp2_with fail
        refine cRd.mono ?_
        rintro e w5 ⟨rg, rfl, hLl, hrg, hgB, hb5⟩
        have HRd := Lib.hid (And.intro hLl (And.intro hgB hb5))
        obtain ⟨v, hv1, hv2, cP⟩ := hole_pieces (w0 := wz) (HFS.out.below hb5) HR.out.hole
        unfold FSA.fp at cP
        rw [HR.out.fb] at cP
        clear cRd hLl hgB hb5
        go_wp2_with fail
        refine cP.mono ?_
        rintro e w6 ⟨PA, pc, ps, rfl, hps, hcon, hpos, hb6⟩
        subst hcon
        have HP := Lib.hid (And.intro hps (And.intro hpos (And.intro hb6 (And.intro hv1 hv2))))
        clear cP hps hpos hb6 hv1 hv2
        go_wp2_with fail
        have hpn : ps.length ≤ l.length := by
          have h1 := few_of_flat HP.out.2.2.2.1.some_
          rw [HP.out.2.2.2.2] at h1
          simpa [cont] using h1
        have hlq0 := HR.out.hole.le
        go_loopw [23, 24] (fun nn i wr => ∃ k : Nat, k ≤ ps.length ∧ i = .int .i64 k ∧ nn = .int .i64 (sumLen (ps.take k)) ∧ Below w6.heap.size w6 wr) (fun _ i _ => ps.length - (intOf i).toNat)
        case atStart => exact ⟨0, Nat.zero_le _, rfl, rfl, Below.refl _ _⟩
        case round =>
          obtain ⟨k5, hk5, rfl, rfl, hb7⟩ := hrel
          have hsl1 := sumLen_take ps k5
          have hsl2 : sumLen ps = l.length := by rw [sumLen_flat (fun p hp => (HP.out.1.2.2.2 p hp).1), HP.out.2.2.2.2]
          have hlq := HR.out.hole.le
          have HS2 := Lib.hid hsl2
          by_cases hlt : k5 < ps.length
          · obtain ⟨pg, po, p, hPA, hp, hpg, h1, h2⟩ := piece_at (HP.out.1.keep (KeepT.of_below hb7)) hlt
            subst hPA
            have hpl : 0 < p.len := HP.out.2.1 p (List.mem_of_getElem? hp)
            have hbs := HP.out.1.2.2.2 p (List.mem_of_getElem? hp)
            have hsn := sumLen_snoc ps k5 p hp
            have hsn2 := sumLen_take ps (k5 + 1)
            have hpb : sumLen (ps.take k5) + p.len ≤ 1023 := by omega
            have hp0 : ((p.len : Int) == 0) = false := beq_eq_false_iff_ne.2 (by omega)
            have HPp := Lib.hid hp
            have HBs := Lib.hid hbs
            have HSn := Lib.hid hsn
            clear hp hbs hsn hsn2 hsl2
            have hbnd := bnd_of_flat HP.out.2.2.2.1 (fun p hp => (HP.out.1.2.2.2 p hp).1) (lo := 0) (hi := 1100) (by rw [HP.out.2.2.2.2]; exact HR.out.hole.cells)
            obtain ⟨hb1, hb2⟩ := hbnd p (List.mem_of_getElem? HPp.out)
            have HBnd := Lib.hid hbnd
            clear hbnd
            have hi0 : (0 : Int) ≤ (k5 : Int) := by omega
            have hi1 : (k5 : Int) < (ps.length : Int) := by omega
            go_upto_region 51 with fail
            go_cut [218] from 180 to 269 (fun s wx => s = .bool false ∧ Below w6.heap.size w6 wx)
            case first =>
              by_cases hk0 : 0 < k5
              · have hk0' : (0 : Int) < (k5 : Int) := by omega
                have hk0d : decide ((0 : Int) < (k5 : Int)) = true := decide_eq_true hk0'
                have hps7 := HP.out.1.keep (KeepT.of_below hb7)
                obtain ⟨pg2, po2, p2, hPA2, hp2, hpg2, h3, h4⟩ := piece_at hps7 (k := k5 - 1) (by omega)
                injection hPA2 with hPA2
                injection hPA2 with e1 e2 _
                subst e1
                subst e2
                have hap := pieces_apart (fun p hp => (HP.out.1.2.2.2 p hp).1) HP.out.2.2.2.1 hp2 (by rw [show k5 - 1 + 1 = k5 by omega]; exact HPp.out)
                obtain ⟨hb3, hb4⟩ := HBnd.out p2 (List.mem_of_getElem? hp2)
                have hle : decide (p.at_ ≤ p2.at_ + (p2.len : Int)) = false := decide_eq_false (by omega)
                have hle2 : ¬ p.at_ ≤ p2.at_ + (p2.len : Int) := by omega
                have hx1 : (0 : Int) ≤ (k5 : Int) - 1 := by omega
                have hx2 : (1 : Int) ≤ (k5 : Int) := by omega
                have hx3 : (k5 : Int) - 1 < (ps.length : Int) := by omega
                have hxw : IntKind.i64.wrap ((k5 : Int) - 1) = (k5 : Int) - 1 := IntWalk.i64_in _ (by omega)
                have hxt : ((k5 : Int) - 1).toNat = k5 - 1 := by omega
                have hxs : IntKind.i64.wrap (p2.at_ + (p2.len : Int)) = p2.at_ + (p2.len : Int) := IntWalk.i64_in _ (by omega)
                clear hp2 hps7
                go_quiet (fail)
                go_wp2_with fail
                go_meet
                case rel => exact ⟨rfl, belowN hb7 _⟩
              · have hk0' : ¬ (0 : Int) < (k5 : Int) := by omega
                have hk0d : decide ((0 : Int) < (k5 : Int)) = false := decide_eq_false hk0'
                go_quiet (fail)
                go_wp2_with fail
                go_meet
                case rel => exact ⟨rfl, belowN hb7 _⟩
            case rest =>
              obtain ⟨rfl, hbc⟩ := hcut
              obtain ⟨pg3, po3, p3, hPA3, hp3, hpg3, h5, h6⟩ := piece_at HP.out.1 hlt
              injection hPA3 with hPA3
              injection hPA3 with e1 e2 _
              subst e1
              subst e2
              obtain rfl : p3 = p := Option.some.inj (hp3.symm.trans HPp.out)
              have hbz : Below wz.heap.size wz w6 := (hb.trans (HRd.out.2.2.mono hb.size)).trans (HP.out.2.2.1.mono (Nat.le_trans hb.size HRd.out.2.2.size))
              obtain ⟨hb3, hb4⟩ := HBnd.out p3 (List.mem_of_getElem? HPp.out)
              obtain ⟨pa, hpa⟩ : ∃ n : Nat, p3.at_ = (n : Int) := ⟨p3.at_.toNat, by omega⟩
              have hmarks := HR.out.marks
              rw [← HP.out.2.2.2.2] at hmarks
              have hpm : ∀ j, j < p3.len → ∃ hj : j < p3.bs.length, isL[pa + j]? = some true ∧ cL[pa + j]? = some p3.bs[j] := by
                intro j hj
                have hjl : j < p3.bs.length := by rw [HBs.out.1]; exact hj
                have hpm := pieces_marks hmarks (by rw [HP.out.2.2.2.2]; exact HR.out.hole.cells) HPp.out hjl
                rw [hpa, show ((pa : Int) + (j : Int)).toNat = pa + j by omega] at hpm
                exact ⟨hjl, hpm.2.2⟩
              have hpa2 : pa + p3.len ≤ 1100 := by omega
              rw [hpa] at h5
              have HZ := Lib.hid (And.intro hbz (And.intro hpm (And.intro h5 (And.intro h6 (And.intro hpg3 hpa)))))
              have hlt1 := HR.out.isB.lt
              have hlt2 := HR.out.csB.lt
              have hj0 : (0 : Int) ≤ (k5 : Int) := by omega
              have hj1 : (k5 : Int) < (ps.length : Int) := by omega
              clear h1 h2 h5 h6 hbz hmarks hpm hpa hb1 hb2 hb3 hb4 hp3 hp0 hpg
              go_wp2_with fail
              go_loopw [25] (fun i wr => ∃ j : Nat, j ≤ p3.len ∧ i = .int .i64 j ∧ Below w6.heap.size w6 wr) (fun i _ => p3.len - (intOf i).toNat)
              case atStart => exact ⟨0, Nat.zero_le _, rfl, hbc⟩
              case round =>
                obtain ⟨j, hj, rfl, hb8⟩ := hrel
                have hpc := (hb8.cell (p := ⟨pg, po + k5 * 2, none⟩) HZ.out.2.2.2.2.1).trans HZ.out.2.2.1
                have hps := (hb8.cell (p := ⟨pg, po + k5 * 2 + 1, none⟩) HZ.out.2.2.2.2.1).trans HZ.out.2.2.2.1
                by_cases hjl : j < p3.len
                · have hjl' : (j : Int) < (p3.len : Int) := by omega
                  obtain ⟨dg, dO, dcs, dt, dfr, had, ⟨_, hdg⟩, hdc⟩ := HBs.out.2.2 (by omega)
                  obtain ⟨hjb, hi1, hi2⟩ := HZ.out.2.1 j hjl
                  rw [had] at hps
                  have hdlt := heap_lt hdg
                  have hbyte := (hb8.cell (p := ⟨dg, dO + j, none⟩) hdlt).trans ((cell_of_row w6 dg (dO + j) dcs dt dfr hdg).trans (hdc j hjb))
                  have hb9 := HZ.out.1.trans (hb8.mono HZ.out.1.size)
                  have hci := (hb9.cell (p := ⟨bi, pa + j, none⟩) hlt1).trans (bools_cell HR.out.isB hi1)
                  have hcc := (hb9.cell (p := ⟨bi + 1, pa + j, none⟩) hlt2).trans (bytesA_cell HR.out.csB hi2)
                  obtain ⟨bv, hbv⟩ : ∃ v : Int, v = ((p3.bs[j]).toNat : Int) := ⟨_, rfl⟩
                  rw [← hbv] at hbyte hcc
                  obtain ⟨D, hD⟩ : ∃ n : Nat, n = pa + j := ⟨_, rfl⟩
                  rw [← hD] at hci hcc
                  have hDi : (pa : Int) + (j : Int) = (D : Int) := by omega
                  have hD1 : D < 1100 := by omega
                  have hDd1 : decide ((D : Int) < 0) = false := decide_eq_false (by omega)
                  have hDd2 : decide ((1100 : Int) ≤ (D : Int)) = false := decide_eq_false (by omega)
                  have hDd3 : decide ((D : Int) ≥ 1100) = false := decide_eq_false (by omega)
                  have hDi1 : (D : Int) < 1100 := by omega
                  have hDi0 : (0 : Int) ≤ (D : Int) := by omega
                  have hne : (bv != bv) = false := by simp
                  have Hbv := Lib.hid (And.intro hbv hD)
                  clear had hdg hdc hi1 hi2 hbv hD hb9 hdlt
                  go_upto_region 57 with fail
                  go_quiet (fail)
                  go_wp2_with fail
                  go_roundw
                  case rel => exact ⟨j + 1, by omega, by go_num, belowN hb8 _⟩
                  case measure => simp [intOf]; omega
                · have hjl' : ¬ (j : Int) < (p3.len : Int) := by omega
                  have hsn3 : IntKind.i64.wrap ((sumLen (ps.take k5) : Int) + (p3.len : Int)) = ((sumLen (ps.take (k5 + 1)) : Nat) : Int) := by
                    rw [HSn.out]; rw [IntWalk.i64_in _ (by omega)]; omega
                  go_wp2_with fail
                  go_roundw
                  case rel => first | exact ⟨k5 + 1, by omega, by go_num, rfl, hb8⟩ | ((repeat apply Exists.intro); exact ⟨⟨k5 + 1, by omega, by go_num, rfl, hb8⟩, rfl⟩)
                  case measure => simp [intOf]; omega
          · obtain rfl : k5 = ps.length := by omega
            rw [List.take_length, HS2.out]
            have hLl : (wantL isL cL S).length = S := by unfold wantL; simp
            have hg5 := HRd.out.2.1
            have hg6 := (HP.out.2.2.1.block rg (heap_lt hg5)).trans hg5
            have hg7 := (hb7.block rg (heap_lt hg6)).trans hg6
            have hw4 := HWl.out
            have hw5 := (HRd.out.2.2.block _ (heap_lt hw4)).trans hw4
            have hw6 := (HP.out.2.2.1.block _ (heap_lt hw5)).trans hw5
            have hw7 := (hb7.block _ (heap_lt hw6)).trans hw6
            have hcv1 := conv_blk hg7 hLl
            have hcv2 := conv_blk hw7 hLl
            obtain ⟨Z, hZ⟩ : ∃ Z : ByteArray, Z = ⟨(wantL isL cL S).toArray⟩ := ⟨_, rfl⟩
            rw [← hZ] at hcv1 hcv2
            have hZZ : (Z.toList == Z.toList) = true := by simp
            have cU := used_any (((HFS.out.below HRd.out.2.2).below HP.out.2.2.1).below hb7)
            unfold FSA.fp at cU
            rw [HR.out.fb, HR.out.hole.used] at cU
            have hlq' : (l.length : Int) ≤ (q : Int) := by omega
            have e1 := HR.out.below.trans (hb.mono HR.out.below.size)
            have e2 := e1.trans (HRd.out.2.2.mono e1.size)
            have e3 := e2.trans (HP.out.2.2.1.mono e2.size)
            have e4 := e3.trans (hb7.mono e3.size)
            have HE := Lib.hid e4
            clear hg5 hg6 hg7 hw4 hw5 hw6 hw7 hZ e1 e2 e3 e4 hLl hsl1 hsl2
            go_wp2_with fail
            refine cU.mono ?_
            rintro e w8 ⟨rfl, rfl⟩
            go_wp2_with fail
            refine (awake_any _).mono ?_
            rintro e w9 ⟨rfl, hb9⟩
            go_wp2_with fail
            go_ret
            exact ⟨rfl, HE.out.trans (hb9.mono HE.out.size)⟩
end Go.Proofs.Ytccfimgpbmkpiaa
