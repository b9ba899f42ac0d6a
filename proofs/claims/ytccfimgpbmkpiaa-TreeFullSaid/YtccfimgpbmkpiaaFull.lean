/- portmanteaulaw13.TreeFull: true. No conditions. -/
import Derived.Test.YtccfimgpbmkpiaaCrowdEnd
import Derived.Test.YtccfimgpbmkpiaaTreeNames
namespace Go.Proofs.Ytccfimgpbmkpiaa
set_option linter.unusedVariables false
set_option linter.unusedSimpArgs false
set_option maxRecDepth 100000
open Go.RowKit Go.MapKept

theorem i64_and_ffff (n : Int) : bits .and .i64 n 65535 = n % 65536 := by
  have h127 : (BitVec.ofInt 64 65535).toNat = 2 ^ 16 - 1 := by decide
  have key : (BitVec.ofInt 64 n &&& BitVec.ofInt 64 65535).toNat = (n % ((2 ^ 64 : Nat) : Int)).toNat % 2 ^ 16 := by
    rw [BitVec.toNat_and, BitVec.toNat_ofInt, h127, Nat.and_two_pow_sub_one_eq_mod]
  show IntKind.i64.wrap ((BitVec.ofInt 64 n &&& BitVec.ofInt 64 65535).toNat : Nat) = n % 65536
  rw [key, IntKind.wrap_i64]
  omega

structure FullRel (w : World) (fb : Nat) (i : Value) (wr : World) (A : FSA) (n m : Nat) : Prop where
  i : i = .int .i64 (n : Int)
  n : n = m + 2
  le : m ≤ 999
  fs : FSAt wr A
  crowd : Crowd A m w.heap.size
  below : Below w.heap.size w wr
  fb : A.fb = fb

set_option maxHeartbeats 4000000 in
theorem full_any {w : World} (k : Int) : Calls Try.prog 7 #[.int .i64 k] w fun e w' => e = .returned (.bool true) ∧ Below w.heap.size w w' := by
  obtain ⟨X, hX⟩ : ∃ X : Nat, bits .and .i64 k 65535 = (X : Int) := ⟨(k % 65536).toNat, by rw [i64_and_ffff]; omega⟩
  obtain ⟨a, ha, ha2⟩ : ∃ a : Nat, (X : Int) % 999 = (a : Int) ∧ a < 999 := ⟨X % 999, by omega, by omega⟩
  go_enter Try.func7, Try.ntmps7
  go_wp2_with fail
  refine (new_any 0 w).mono ?_
  rintro e w1 ⟨rfl, h1, hb1⟩
  unfold FSA.fp
  obtain ⟨fb, hfb⟩ : ∃ x, x = (FSA.new w.heap.size 0).fb := ⟨_, rfl⟩
  have R0 := Lib.hid (FullRel.mk (w := w) (fb := fb) (n := 2) (m := 0) rfl rfl (Nat.zero_le _) h1 (Crowd.new w.heap.size 0) hb1 hfb.symm)
  rw [← hfb]
  clear hfb h1 hb1
  go_wp2_with fail
  go_loopw [4] (fun i wr => ∃ A n m, FullRel w fb i wr A n m) (fun i _ => 1001 - (intOf i).toNat)
  case atStart => exact ⟨_, 2, 0, R0.out⟩
  case round =>
    obtain ⟨A, n, m, R⟩ := hrel
    obtain rfl := R.i
    have hm := R.le
    have hn := R.n
    have HR := Lib.hid R
    clear R R0
    by_cases hlt : m < 999
    · have hle : (n : Int) ≤ 1000 := by omega
      have hn0 : n < 4611686018427387904 := by omega
      have HN := Lib.hid hn
      clear hn
      go_wp2_with fail
      refine (digits_nat n hn0).mono ?_
      rintro e w2 ⟨rfl, hbd⟩
      obtain ⟨S, hS⟩ : ∃ S : ByteArray, S = ⟨(dg n).toArray⟩ := ⟨_, rfl⟩
      obtain ⟨T, hT⟩ : ∃ T : ByteArray, T = numS 110 n := ⟨_, rfl⟩
      have hTS : ({ data := #[110] } : ByteArray) ++ S = T := by rw [hT, hS]; rfl
      have hadd : ¬ 9223372036854775807 < ({ data := #[110] } : ByteArray).size + S.size := by
        have h1 := dg_len19 hn0
        have h2 : S.size = (dg n).length := by rw [hS]; rfl
        have h3 : ({ data := #[110] } : ByteArray).size = 1 := rfl
        omega
      have cM := crowd_make (HR.out.fs.below hbd) HR.out.crowd hlt (HR.out.below.trans (hbd.mono HR.out.below.size)) (Nat.le_refl _)
      rw [← HN.out, ← hT] at cM
      unfold FSA.fp ANode.val pipeN at cM
      rw [HR.out.fb] at cM
      rw [← hS]
      have HT := Lib.hid (And.intro hT hS)
      clear hT hS
      go_wp2_with fail
      refine cM.mono ?_
      rintro e w3 ⟨A1, rfl, h3, hC3, hb3, hf3⟩
      have R3 := Lib.hid (FullRel.mk (w := w) (fb := fb) (n := n + 1) (m := m + 1) rfl (by have := HN.out; omega) (by omega) h3 hC3 hb3 hf3)
      clear h3 hC3 hb3 hf3 cM
      go_wp2_with fail
      go_roundw
      case rel => exact ⟨A1, n + 1, m + 1, by first | exact R3.out | (have := R3.out; push_cast at this; exact this)⟩
      case measure => simp [intOf]; omega
    · obtain rfl : m = 999 := by omega
      have hle : ¬ (n : Int) ≤ 1000 := by omega
      have hC := HR.out.crowd
      have cE := make_err HR.out.fs 1 sMore pipeN (by rw [hC.full sMore_head sMore_ok]; decide) (by rw [hC.len]; decide)
      rw [hC.full sMore_head sMore_ok] at cE
      unfold FSA.fp ANode.val pipeN sMore at cE
      rw [HR.out.fb] at cE
      have HC := Lib.hid hC
      clear hC
      go_wp2_with fail
      refine cE.mono ?_
      rintro e w2 ⟨rfl, hb2⟩
      have H2 := Lib.hid (And.intro (HR.out.fs.below hb2) (HR.out.below.trans (hb2.mono HR.out.below.size)))
      clear cE hb2
      obtain ⟨N, hN⟩ : ∃ N : Nat, N = a + 2 := ⟨_, rfl⟩
      have hNi : (a : Int) + 2 = (N : Int) := by omega
      have hN0 : N < 4611686018427387904 := by omega
      have HN := Lib.hid hN
      clear hN hn
      go_wp2_with fail
      refine (digits_nat N hN0).mono ?_
      rintro e w3 ⟨rfl, hbd⟩
      obtain ⟨S, hS⟩ : ∃ S : ByteArray, S = ⟨(dg N).toArray⟩ := ⟨_, rfl⟩
      obtain ⟨T, hT⟩ : ∃ T : ByteArray, T = numS 110 N := ⟨_, rfl⟩
      have hTS : ({ data := #[110] } : ByteArray) ++ S = T := by rw [hT, hS]; rfl
      have hadd : ¬ 9223372036854775807 < ({ data := #[110] } : ByteArray).size + S.size := by
        have h1 := dg_len19 hN0
        have h2 : S.size = (dg N).length := by rw [hS]; rfl
        have h3 : ({ data := #[110] } : ByteArray).size = 1 := rfl
        omega
      have cR := crowd_remove (H2.out.1.below hbd) HC.out ha2 (H2.out.2.trans (hbd.mono H2.out.2.size)) (Nat.le_refl _)
      rw [← HN.out, ← hT] at cR
      unfold FSA.fp at cR
      rw [HR.out.fb] at cR
      rw [← hS]
      have HT := Lib.hid (And.intro hT hS)
      clear hT hS hbd
      go_wp2_with fail
      refine cR.mono ?_
      rintro e w4 ⟨A4, rfl, h4, hL4, hb4, hf4⟩
      have cM := less_make h4 hL4 hb4 (Nat.le_refl _)
      unfold FSA.fp ANode.val dirN sMore at cM
      rw [hf4] at cM
      clear cR h4 hL4 hb4
      go_wp2_with fail
      refine cM.mono ?_
      rintro e w5 ⟨A5, rfl, h5, hL5, hb5, hf5⟩
      have hmk := hL5.makeErr
      have cE := make_err h5 1001 sYet pipeN (by rw [hmk]; decide) (by rw [hL5.len]; decide)
      rw [hmk] at cE
      unfold FSA.fp ANode.val pipeN sYet at cE
      first | rw [hf5] at cE | rw [hf5, hf4] at cE
      have H5 := Lib.hid (And.intro h5 (And.intro hL5 hb5))
      have hf5' : A5.fb = fb := by first | exact hf5 | exact hf5.trans hf4
      clear cM h5 hL5 hb5 hmk hf5 hf4
      go_wp2_with fail
      refine cE.mono ?_
      rintro e w6 ⟨rfl, hb6⟩
      obtain ⟨d, hd, d6, dn, dz⟩ := H5.out.2.1.root
      have cN := names_dir (H5.out.1.below hb6) hd d6 dz (by omega)
      unfold FSA.fp at cN
      rw [hf5', dn] at cN
      have H6 := Lib.hid (H5.out.2.2.trans (hb6.mono H5.out.2.2.size))
      clear cE hb6 hd d6 dn dz hf5'
      go_wp2_with fail
      refine cN.mono ?_
      rintro e w7 ⟨⟨g, c, rfl⟩, hb7⟩
      have H7 := Lib.hid (H6.out.trans (hb7.mono H6.out.size))
      clear cN hb7
      go_wp2_with fail
      refine (awake_any _).mono ?_
      rintro e w8 ⟨rfl, hb8⟩
      go_wp2_with fail
      go_ret
      exact ⟨rfl, H7.out.trans (hb8.mono H7.out.size)⟩
end Go.Proofs.Ytccfimgpbmkpiaa
