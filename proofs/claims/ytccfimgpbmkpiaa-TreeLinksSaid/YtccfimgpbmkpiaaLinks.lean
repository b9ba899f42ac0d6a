/- portmanteaulaw13.TreeLinks: true. No conditions. -/
import Derived.Test.YtccfimgpbmkpiaaLeft
import Derived.Test.YtccfimgpbmkpiaaArgs
import Derived.Laws.IdiomStrings
import Derived.Deep.RegionLaw
import Derived.Deep.CutRange
import Derived.Deep.DeepCutAuto
namespace Go.Proofs.Ytccfimgpbmkpiaa
set_option linter.unusedVariables false
set_option linter.unusedSimpArgs false
set_option maxRecDepth 100000
open Go.RowKit Go.MapKept

theorem back1 (w : World) (b : Nat) (hb : b < 256) : (convert 37 9 (.slice (some ⟨w.heap.size, 0, none⟩) 1 1)).run Try.prog (w.alloc (.cells #[.int .u8 b] 5)) = .ok (.string ⟨#[b.toUInt8]⟩) (w.alloc (.cells #[.int .u8 b] 5)) := by
  have := run_convert_bytes_back (P := Try.prog) (w.alloc (.cells #[.int .u8 b] 5)) 37 9 5 ⟨w.heap.size, 0, none⟩ 1 [b.toUInt8] Try.underlying37 Try.underlying5 Try.underlying9 (fun j hj => by
    obtain rfl : j = 0 := by simpa using hj
    rw [show (⟨w.heap.size, 0, none⟩ : Addr).add 0 = ⟨w.heap.size, 0, none⟩ from rfl, World.cell?_alloc_new w #[.int .u8 b] 5 0]
    simp
    omega)
  simpa using this

/-- One byte as a string. -/
def bS (k : Nat) : ByteArray := ⟨#[(48 + k).toUInt8]⟩
theorem back1k (w : World) (k : Nat) (hk : k < 6) : (convert 37 9 (.slice (some ⟨w.heap.size, 0, none⟩) 1 1)).run Try.prog (w.alloc (.cells #[.int .u8 (48 + (k : Int))] 5)) = .ok (.string (bS k)) (w.alloc (.cells #[.int .u8 (48 + (k : Int))] 5)) := by
  have := back1 w (48 + k) (by omega)
  rw [show ((48 + k : Nat) : Int) = 48 + (k : Int) by push_cast; rfl] at this
  exact this
theorem nS_cat (k : Nat) : (⟨#[110]⟩ ++ bS k : ByteArray) = nS k := rfl


structure LinksRel (w : World) (fb dn T : Nat) (v i : Value) (wr : World) (k : Nat) (A : FSA) (c : Int) : Prop where
  le : k ≤ T
  i : i = .int .i64 k
  fs : FSAt wr A
  fb : A.fb = fb
  bunch : Bunch A 2 ((List.range (max k 1)).map nS) dn c w.heap.size
  c0 : 0 ≤ c
  c1 : c ≤ 2 + k
  row : wr.ownsRow w.heap.size 9 1 v k ((List.range k).map fun m => .string (nS m))
  below : Below w.heap.size w wr

theorem LinksRel.left {w wr : World} {fb dn T : Nat} {v i : Value} {A : FSA} {c : Int} (h : LinksRel w fb dn (T + 1) v i wr (T + 1) A c) (hT : T ≤ 5) : LeftRel w fb dn v wr ((List.range (T + 1)).map nS) A c := by
  have hm : max (T + 1) 1 = T + 1 := by omega
  have hb := h.bunch
  rw [hm] at hb
  have hl : ((List.range (T + 1)).map nS).length = T + 1 := by simp
  refine ⟨fun s hs => ?_, by omega, h.fs, h.fb, h.c0, by have := h.c1; omega, fun _ => hb, fun h => by omega, ?_, h.below⟩
  · obtain ⟨m, hm, rfl⟩ := List.mem_map.1 hs
    have := List.mem_range.1 hm
    exact nS_ok m (by omega)
  · rw [hl]
    have := h.row
    unfold svals
    rw [List.map_map]
    exact this

set_option maxHeartbeats 2000000 in
theorem links_any {w : World} (n : Int) {DA : Option Addr} {dn dc : Nat} {bs : List UInt8} (hD : BytesAt w DA dn dc bs) {OA : Option Addr} {on oc : Nat} {zs : List Int} (hO : IntsAt w OA on zs) :
    Calls Try.prog 4 #[.int .i64 n, .slice DA dn dc, .slice OA on oc] w fun e w' => e = .returned (.bool true) ∧ Below w.heap.size w w' := by
  obtain ⟨N, hN, hN2⟩ : ∃ N : Nat, bits .and .i64 n 255 = (N : Int) ∧ N ≤ 255 := ⟨(n % 256).toNat, by rw [i64_and255]; omega, by omega⟩
  obtain ⟨i0, hi, hz0, hz1, hz2⟩ := info_parts infoString
  obtain ⟨T, hT, hT2⟩ : ∃ T : Nat, (N : Int) % 6 = (T : Int) ∧ T ≤ 5 := ⟨N % 6, by omega, by omega⟩
  have HD := Lib.hid hD
  have HO := Lib.hid hO
  clear hD hO
  by_cases hl : dn ≤ 100
  · have hl' : ¬ (100 : Int) < (dn : Int) := by omega
    go_enter Try.func4, Try.ntmps4
    go_wp2_with fail
    refine (new_any 1000 w).mono ?_
    rintro e w1 ⟨rfl, h1, hb1⟩
    have HD1 := Lib.hid (HD.out.keep (KeepT.of_below hb1))
    unfold FSA.fp
    have cM := bunch_make h1 hb1 (Nat.le_refl _)
    unfold FSA.fp ANode.val n0 at cM
    go_wp2_with fail
    refine cM.mono ?_
    rintro e w2 ⟨A1, rfl, h2, hB2, hx2, hb2, hfb2⟩
    have cW := bunch_write h2 hB2 hx2 hb2 (Nat.le_refl _) (HD.out.keep (KeepT.of_below hb2)) hl
    unfold FSA.fp at cW
    rw [hfb2] at cW
    have Hfb2 := Lib.hid hfb2
    clear h1 hb1 HD1 cM h2 hB2 hx2 hb2 hfb2
    go_wp2_with fail
    refine cW.mono ?_
    rintro e w3 ⟨A2, c2, rfl, h3, hB3, hc0, hc1, hb3, hfb3⟩
    obtain ⟨fb0, hfb0⟩ : ∃ x, x = (FSA.new w.heap.size 1000).fb := ⟨_, rfl⟩
    rw [← hfb0] at hfb3
    rw [← hfb0]
    have R0 := Lib.hid (LinksRel.mk (w := w) (dn := dn) (T := T + 1) (k := 0) (Nat.zero_le _) rfl h3 hfb3 hB3 hc0 (by omega) (World.ownsRow_nil w3 _ _ _) hb3)
    clear cW h3 hB3 hc0 hc1 hb3 hfb3 hfb0 Hfb2
    go_wp2_with fail
    go_loopw [10, 11] (fun v i wr => ∃ k A c, LinksRel w fb0 dn (T + 1) v i wr k A c) (fun _ i _ => T + 1 - (intOf i).toNat)
    case atStart => exact ⟨0, A2, c2, R0.out⟩
    case round =>
      obtain ⟨k, A, c, R⟩ := hrel
      obtain rfl := R.i
      have hk := R.le
      have HR := Lib.hid R
      clear R R0
      by_cases hlt : k < T + 1
      · have hbk := back1k wr k (by omega)
        have hcat := nS_cat k
        have hrow := Lib.hid HR.out.row
        have cL : 0 < k → Calls Try.prog 16 #[.pointer (some ⟨fb0, 0, none⟩), .int .i64 1, .string (nS k), .int .i64 2] (wr.alloc (.cells #[.int .u8 (48 + (k : Int))] 5)) fun e w' => ∃ A1, e = .returned (.int .i64 0) ∧ FSAt w' A1 ∧ Bunch A1 2 ((List.range (k + 1)).map nS) dn (c + 1) w.heap.size ∧ A1.fb = fb0 ∧ Frm A.owns (wr.alloc (.cells #[.int .u8 (48 + (k : Int))] 5)) w' := by
          intro h0
          have e1 : max k 1 = k := by omega
          have hb := HR.out.bunch
          rw [e1] at hb
          have := bunch_link (HR.out.fs.alloc (.cells #[.int .u8 (48 + (k : Int))] 5)) hb (nS_new (by omega)) (nS_ok k (by omega)) HR.out.c0 (by have := HR.out.c1; omega) (by simp; omega)
          unfold FSA.fp at this
          rw [HR.out.fb] at this
          rw [List.range_succ, List.map_append]
          exact this
        have CL := Lib.hid cL
        clear cL
        have hb1 : Below w.heap.size w (wr.alloc (.cells #[.int .u8 (48 + (k : Int))] 5)) := HR.out.below.alloc HR.out.below.size _
        have HB1 := Lib.hid hb1
        clear hb1
        by_cases h0 : 0 < k
        · go_wp2_with (first | (go_at_call 16; refine (CL.out (by omega)).mono ?_; rintro e w4 ⟨A4, rfl, h4, hB4, hfb4, hf4⟩; have HR4 := Lib.hid (And.intro (row_frmT (HR.out.fs.alloc _) string_row.1 string_row.2.1 (hrow.out.alloc (.cells #[.int .u8 (48 + (k : Int))] 5)) hf4) (And.intro h4 (And.intro hB4 (And.intro hfb4 (HR.out.bunch.above.frm hf4 HB1.out (Nat.le_refl _)))))); clear h4 hB4 hfb4 hf4) | (at_builtin; go_loud (refine wpList_append_own _ rfl (.tmp 75) (.tmp 77) 39 rfl w.heap.size 9 i0 (.string ⟨#[]⟩) 1 16 Try.underlying39 hi hz0 hz1 hz2 rfl (by decide) _ _ _ rfl (HR4.out.1.alloc _) ⟨w4.heap.size, 0, none⟩ 1 1 [.string (nS k)] rfl rfl ?c1 ?c2 ?c3 ?c4 ?c5 ?_)))
          case c1 => exact World.news_of_block (cs := #[.string (nS k)]) (t := 9) (fr := (0, 0)) (heap_alloc_new w4 _)
          case c2 => intro u hu; obtain rfl : u = .string (nS k) := by simpa using hu
                     rfl
          case c3 => unfold maxLen; omega
          case c4 => omega
          case c5 => have := HR4.out.2.2.2.2.size; simp; omega
          intro v5 w5 hown5 hgrow5 _
          have hfs5 := (HR4.out.2.1.alloc (.cells #[.string (nS k)] 9)).rowT string_row.1 string_row.2.1 string_row.2.2 (HR4.out.1.alloc _) hgrow5
          have hb5 : Below w.heap.size w w5 := (HR4.out.2.2.2.2.alloc HR4.out.2.2.2.2.size (.cells #[.string (nS k)] 9)).grown hgrow5 (by simp; have := HR4.out.2.2.2.2.size; omega) (fun y hy => (HR4.out.1.lt y hy).1)
          have HR5 := Lib.hid (LinksRel.mk (w := w) (fb := fb0) (dn := dn) (T := T + 1) (v := v5) (i := .int .i64 ((k : Int) + 1)) (k := k + 1) (c := c + 1) (by omega) (by go_num) hfs5 HR4.out.2.2.2.1 (by have := HR4.out.2.2.1; rwa [show max (k + 1) 1 = k + 1 by omega]) (by have := HR.out.c0; omega) (by have := HR.out.c1; omega) (by rw [List.range_succ, List.map_append]; exact hown5) hb5)
          clear hfs5 hown5 hb5 hgrow5
          go_wp2_with fail
          go_roundw
          case rel => exact ⟨k + 1, _, _, HR5.out⟩
          case measure => simp [intOf]; omega
        · have h0' : ¬ (0 : Int) < (k : Int) := by omega
          have HF := Lib.hid h0
          clear h0
          go_wp2_with (at_builtin; go_loud (refine wpList_append_own _ rfl (.tmp 75) (.tmp 77) 39 rfl w.heap.size 9 i0 (.string ⟨#[]⟩) 1 16 Try.underlying39 hi hz0 hz1 hz2 rfl (by decide) _ _ _ rfl ((hrow.out.alloc _).alloc _) ⟨wr.heap.size + 1, 0, none⟩ 1 1 [.string (nS k)] rfl rfl ?d1 ?d2 ?d3 ?d4 ?d5 ?_))
          case d2 => rfl
          case d3 => unfold maxLen; omega
          case d4 => omega
          case d5 => have := HB1.out.size; simp at this ⊢; omega
          intro v5 w5 hown5 hgrow5 _
          have hfs5 := ((HR.out.fs.alloc (.cells #[.int .u8 (48 + (k : Int))] 5)).alloc (.cells #[.string (nS k)] 9)).rowT string_row.1 string_row.2.1 string_row.2.2 ((hrow.out.alloc _).alloc _) hgrow5
          have hb5 : Below w.heap.size w w5 := (HB1.out.alloc HB1.out.size (.cells #[.string (nS k)] 9)).grown hgrow5 (by simp; have := HR.out.below.size; omega) (fun y hy => (hrow.out.lt y hy).1)
          have HR5 := Lib.hid (LinksRel.mk (w := w) (fb := fb0) (dn := dn) (T := T + 1) (v := v5) (i := .int .i64 ((k : Int) + 1)) (k := k + 1) (c := c) (by omega) (by go_num) hfs5 HR.out.fb (by have h1 := HR.out.bunch; have h2 := HF.out; rwa [show max (k + 1) 1 = max k 1 by omega]) (by have := HR.out.c0; omega) (by have := HR.out.c1; omega) (by rw [List.range_succ, List.map_append]; exact hown5) hb5)
          clear hfs5 hown5 hb5 hgrow5
          go_wp2_with fail
          go_roundw
          case rel => exact ⟨k + 1, _, _, HR5.out⟩
          case measure => simp [intOf]; omega
      · obtain rfl : k = T + 1 := by omega
        have hE := HR.out.left hT2
        have HE := Lib.hid hE
        clear hE HR
        go_wp2_with fail
        go_loopw [10] (fun v wr => ∃ l A c, LeftRel w fb0 dn v wr l A c) (fun v _ => lenOf v)
        case atStart => exact ⟨_, A, c, HE.out⟩
        case round =>
          obtain ⟨l, A, c, R⟩ := hrel
          obtain ⟨VA, VC, hv⟩ := ownsRow_form R.row
          subst hv
          have HR := Lib.hid R
          clear R HE
          by_cases h0 : 0 < l.length
          · obtain ⟨g, hg⟩ : ∃ g, VA = some ⟨g, 0, none⟩ := by
              obtain ⟨g, c', e, _⟩ := HR.out.row.form h0
              injection e with e1 _ _
              exact ⟨g, e1⟩
            subst hg
            have hB := HR.out.bunch h0
            obtain ⟨x, hx, hxl⟩ := hB.stat
            have hc0 : wr.cell? ⟨g, 0, none⟩ = some (.string l[0]) := own_cell HR.out.row (svals_get (List.getElem?_eq_getElem h0))
            have hglt := (own_lt HR.out.row).2
            have cS := stat_any HR.out.fs 2
            rw [hx] at cS
            unfold FSA.fp ANode.val at cS
            rw [HR.out.fb, hxl] at cS
            have hok0 := HR.out.names _ (List.getElem_mem h0)
            have cF : ∀ w', FSAt w' A → Calls Try.prog 13 #[.pointer (some ⟨fb0, 0, none⟩), .int .i64 1, .string l[0]] w' fun e w'' => e = .returned (.tuple #[.int .i64 2, .int .i64 0]) ∧ w' = w'' := fun w' h => by
              have := find_any h 1 l[0]
              unfold FSA.fp at this
              rwa [HR.out.fb, hB.find (List.getElem_mem h0) hok0] at this
            have cU : ∀ w', FSAt w' A → Calls Try.prog 17 #[.pointer (some ⟨fb0, 0, none⟩)] w' fun e w'' => e = .returned (.int .i64 dn) ∧ w' = w'' := fun w' h => by
              have := used_any h
              unfold FSA.fp at this
              rwa [HR.out.fb, hB.used] at this
            have CF := Lib.hid cF
            have CU := Lib.hid cU
            clear cF cU hx hxl hok0 hB
            go_wp2_with fail
            refine cS.mono ?_
            rintro e w5 ⟨rfl, hb5⟩
            have H5 := Lib.hid (FSAt.below HR.out.fs hb5)
            have hbw5 := HR.out.below.trans (hb5.mono HR.out.below.size)
            have HB5 := Lib.hid hbw5
            have hsz5 := hb5.size
            have HRow5 := Lib.hid (ownsRow_below HR.out.row hb5)
            have hc5 := (hb5.cell (p := ⟨g, 0, none⟩) hglt).trans hc0
            have hg5 : g < w5.heap.size := Nat.lt_of_lt_of_le hglt hsz5
            clear cS hbw5 hb5 hc0
            have hl6 := HR.out.len
            have hle := own_le HRow5.out
            go_upto_if 126 with (first | (go_at_call 13; refine (CF.out _ (H5.out.alloc _)).mono ?_; rintro e w' ⟨rfl, rfl⟩) | (go_at_call 17; refine (CU.out _ (H5.out.alloc _)).mono ?_; rintro e w' ⟨rfl, rfl⟩))
            go_cut [17] from 79 to 151 (fun s17 wx => ∃ K : Nat, s17 = .int .i64 K ∧ K < l.length ∧ FSAt wx A ∧ Below w.heap.size w wx ∧ wx.ownsRow w.heap.size 9 1 (.slice (some ⟨g, 0, none⟩) l.length VC) l.length (svals l))
            case first =>
              by_cases hon : l.length ≤ on
              · have hon' : (l.length : Int) ≤ (on : Int) := by omega
                obtain ⟨ob, oo, z, hOA, hob, hoc⟩ := HO.out.last h0 hon
                subst hOA
                have hoc5 : w5.cell? ⟨ob, oo + (l.length - 1), none⟩ = some (.int .i64 z) := (HB5.out.cell (p := ⟨ob, oo + (l.length - 1), none⟩) hob).trans hoc
                obtain ⟨Z, hZ⟩ : ∃ Z : Nat, bits .and .i64 z 255 = (Z : Int) := ⟨(z % 256).toNat, by rw [i64_and255]; omega⟩
                obtain ⟨K, hK⟩ : ∃ K : Nat, (Z : Int) % (l.length : Int) = (K : Int) := ⟨Z % l.length, by omega⟩
                have hKl : K < l.length := by
                  have h1 : (Z : Int) % (l.length : Int) < (l.length : Int) := Int.emod_lt_of_pos _ (by omega)
                  omega
                have hob5 : ob < w5.heap.size := Nat.lt_of_lt_of_le hob HB5.out.size
                clear hoc
                go_wp2_with fail
                go_meet
                case rel => exact ⟨K, by rw [hK], hKl, H5.out.alloc _, HB5.out.alloc HB5.out.size _, HRow5.out.alloc _⟩
              · have hon' : ¬ (l.length : Int) ≤ (on : Int) := by omega
                go_wp2_with fail
                go_meet
                case rel => exact ⟨0, rfl, h0, H5.out.alloc _, HB5.out.alloc HB5.out.size _, HRow5.out.alloc _⟩
            case rest =>
              obtain ⟨K, rfl, hKl, hx1, hx2, hx3⟩ := hcut
              have hcK : wc.cell? ⟨g, K, none⟩ = some (.string l[K]) := own_cell hx3 (svals_get (List.getElem?_eq_getElem hKl))
              have cR := left_remove HR.out hx1 hx2 hx3 (k := K) hKl (by omega)
              clear hx1 hx2 hx3 H5 HB5 HRow5 hc5
              go_wp2_with fail
              refine cR.mono ?_
              rintro e w6 ⟨rfl, hsz6, hrow6, A6, h6, hfb6, hb6, hbu6, hgo6⟩
              have HR6 := Lib.hid (And.intro hrow6 (And.intro h6 (And.intro hfb6 (And.intro hb6 (And.intro hbu6 hgo6)))))
              clear hrow6 h6 hfb6 hb6 hbu6 hgo6 hcK cR
              go_wp2_with fail
              have hsx : w.heap.size ≤ w6.heap.size := HR6.out.2.2.2.1.size
              have hk1 : K ≤ VC := by omega
              have hk2 : (K : Int) ≤ (VC : Int) := by omega
              have hk3 : (0 : Int) ≤ (K : Int) := by omega
              have hk4 : K + 1 ≤ l.length := by omega
              have hk5 : (K : Int) + 1 ≤ (l.length : Int) := by omega
              have hk6 : (0 : Int) ≤ (K : Int) + 1 := by omega
              have hk7 : K + 1 ≤ VC := by omega
              have hk8 : (K : Int) + 1 ≤ (VC : Int) := by omega
              have hk9 : ((K : Int) + 1).toNat = K + 1 := by omega
              have hkw : IntKind.i64.wrap ((K : Int) + 1) = (K : Int) + 1 := IntWalk.i64_in _ (by omega)
              by_cases hKV : K + 1 < VC
              · have hkv2 : ¬ VC = K + 1 := by omega
                go_region_held3 (fun w' => True) (trivial) (first | ((refine step_append_own (by rfl) (.tmp 142) (.tmp 145) 39 (by rfl) w.heap.size 9 i0 (.string ⟨#[]⟩) 1 16 Try.underlying39 hi hz0 hz1 hz2 (by rfl) (by decide) _ 0 [] (by rfl) (empty_row _ hsx) ⟨g, 0, none⟩ K VC (svals (l.take K)) (by rfl) (by simp [svals]; omega) (take_cells (HR6.out.1.alloc _) K) (svals_one _) (by unfold maxLen; omega) (by omega) (by simp; omega) ?_; intro v7 w7 hown7 hgrow7 hat7; have hr7 : w7.ownsRow w.heap.size 9 1 (.slice (some ⟨g, 0, none⟩) l.length _) l.length (svals l) := row_next HR6.out.1 hgrow7; have hs7 : w.heap.size ≤ w7.heap.size := Nat.le_trans hsx (grown_size hgrow7))) | ((refine step_append_own (by rfl) (.tmp 146) (.tmp 150) 39 (by rfl) w.heap.size 9 i0 (.string ⟨#[]⟩) 1 16 Try.underlying39 hi hz0 hz1 hz2 (by rfl) (by decide) v7 (0 + K) ([] ++ svals (l.take K)) (by rfl) hown7 ⟨g, K + 1, none⟩ (l.length - (K + 1)) (VC - (K + 1)) (svals (l.drop (K + 1))) (by rfl) (by simp [svals]) (drop_cells hr7 (K + 1)) (svals_one _) (by unfold maxLen; omega) (by omega) hs7 ?_; intro v8 w8 hown8 hgrow8 hat8)) | fail)
                have hn := left_next HR.out (k := K) hKl (row_tree HR6.out.2.1 hgrow7 hown7 hgrow8) HR6.out.2.2.1 HR6.out.2.2.2.2.1 HR6.out.2.2.2.2.2 (by simpa using hown8) (row_below HR6.out.2.2.2.1 hsx hgrow7 hown7 hgrow8)
                go_wp2_with fail
                go_roundw
                case rel => (repeat apply Exists.intro); exact ⟨⟨_, _, _, hn⟩, rfl⟩
                case measure => exact left_measure hown8 HR.out.row hKl
              · have hkv3 : VC = K + 1 := by omega
                have hkv4 : l.length ≤ K + 1 := by omega
                have HKV4 := Lib.hid hkv4
                clear hkv4
                have hkv2 : (VC = K + 1) = True := eq_true hkv3
                clear hkv3
                go_region_held3 (fun w' => True) (trivial) (first | ((refine step_append_own (by rfl) (.tmp 142) (.tmp 145) 39 (by rfl) w.heap.size 9 i0 (.string ⟨#[]⟩) 1 16 Try.underlying39 hi hz0 hz1 hz2 (by rfl) (by decide) _ 0 [] (by rfl) (empty_row _ hsx) ⟨g, 0, none⟩ K VC (svals (l.take K)) (by rfl) (by simp [svals]; omega) (take_cells (HR6.out.1.alloc _) K) (svals_one _) (by unfold maxLen; omega) (by omega) (by simp; omega) ?_; intro v7 w7 hown7 hgrow7 hat7; have hr7 : w7.ownsRow w.heap.size 9 1 (.slice (some ⟨g, 0, none⟩) l.length _) l.length (svals l) := row_next HR6.out.1 hgrow7; have hs7 : w.heap.size ≤ w7.heap.size := Nat.le_trans hsx (grown_size hgrow7))) | ((refine step_append_own (by rfl) (.tmp 146) (.tmp 150) 39 (by rfl) w.heap.size 9 i0 (.string ⟨#[]⟩) 1 16 Try.underlying39 hi hz0 hz1 hz2 (by rfl) (by decide) v7 (0 + K) ([] ++ svals (l.take K)) (by rfl) hown7 ⟨g, 0, none⟩ (l.length - (K + 1)) (VC - (K + 1)) (svals (l.drop (K + 1))) (by rfl) (by simp [svals]) (drop_none HKV4.out _) (svals_one _) (by unfold maxLen; omega) (by omega) hs7 ?_; intro v8 w8 hown8 hgrow8 hat8)) | fail)
                have hn := left_next HR.out (k := K) hKl (row_tree HR6.out.2.1 hgrow7 hown7 hgrow8) HR6.out.2.2.1 HR6.out.2.2.2.2.1 HR6.out.2.2.2.2.2 (by simpa using hown8) (row_below HR6.out.2.2.2.1 hsx hgrow7 hown7 hgrow8)
                go_wp2_with fail
                go_roundw
                case rel => (repeat apply Exists.intro); exact ⟨⟨_, _, _, hn⟩, rfl⟩
                case measure => exact left_measure hown8 HR.out.row hKl
          · have h0' : ¬ (0 : Int) < (l.length : Int) := by omega
            have hg := HR.out.gone (by omega)
            have cS := stat_any HR.out.fs 2
            rw [hg.stat] at cS
            unfold FSA.fp ANode.val ANode.zero at cS
            rw [HR.out.fb] at cS
            have HG := Lib.hid hg
            clear hg
            go_wp2_with fail
            refine cS.mono ?_
            rintro e w5 ⟨rfl, hb5⟩
            have H5 := Lib.hid (FSAt.below HR.out.fs hb5)
            have hbw5 := HR.out.below.trans (hb5.mono HR.out.below.size)
            have HB5 := Lib.hid hbw5
            have hsz5 := hb5.size
            clear cS hbw5 hb5
            go_wp2_with fail
            have cMk := Gone.make (H5.out.alloc (.cells #[.int .i64 0, .int .i64 0, .int .i64 0, .int .i64 0, .int .i64 0, .string ⟨#[]⟩, .int .i64 0, .int .i64 0, .int .i64 0, .int .i64 0, .int .i64 0] 29)) HG.out (HB5.out.alloc HB5.out.size _) (Nat.le_refl _) HR.out.c0 (by have := HR.out.c1; omega)
            unfold FSA.fp ANode.val n0 at cMk
            rw [HR.out.fb] at cMk
            refine cMk.mono ?_
            rintro e w6 ⟨rfl, hb6, A6, h6, hfb6, hu6⟩
            have cU := used_any h6
            unfold FSA.fp at cU
            rw [hfb6, hu6] at cU
            have HB6 := Lib.hid hb6
            clear cMk hb6 h6 hfb6 hu6 hsz5
            go_wp2_with (first | (go_at_call 17; refine cU.mono ?_; rintro e w' ⟨rfl, rfl⟩) | (go_at_call 12; refine (awake_any _).mono ?_; rintro e w7 ⟨rfl, hb7⟩))
            go_ret
            exact ⟨rfl, HB6.out.trans (hb7.mono HB6.out.size)⟩
  · have hl' : (100 : Int) < (dn : Int) := by omega
    go_enter Try.func4, Try.ntmps4
    go_wp2_with fail
    refine (new_any 1000 w).mono ?_
    rintro e w1 ⟨rfl, h1, hb1⟩
    unfold FSA.fp
    go_wp2_with (go_at_call 12; refine (awake_any _).mono ?_; rintro e w2 ⟨rfl, hb2⟩)
    go_ret
    exact ⟨rfl, hb1.trans (hb2.mono hb1.size)⟩
end Go.Proofs.Ytccfimgpbmkpiaa
