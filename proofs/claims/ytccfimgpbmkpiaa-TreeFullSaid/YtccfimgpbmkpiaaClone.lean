/- slices.Clone, slices.Grow and slices.Concat over bytes. Conditions: at least one byte, at most 2^41 of them. -/
import Derived.Test.YtccfimgpbmkpiaaPcs
import Derived.Lib.AppendZeros
import Derived.WalkSpells
namespace Go.Proofs.Ytccfimgpbmkpiaa
set_option linter.unusedVariables false
set_option linter.unusedSimpArgs false
set_option maxRecDepth 100000
open Go.RowKit Go.MapKept

def bvals (bs : List UInt8) : List Value := bs.map fun b => .int .u8 (b.toNat : Int)
theorem infoU8 : (Try.prog.info? 5).map (fun i => (i.zero, i.size, i.bytes)) = some (some (.int .u8 0), 1, 1) := by kernel_rfl

theorem BytesAt.of_own {w : World} {base : Nat} {A : Option Addr} {n c m : Nat} {bs : List UInt8} (h : w.ownsRow base 5 1 (.slice A n c) m (bvals bs)) (hm : m = bs.length) : BytesAt w A n c bs ∧ n = m := by
  subst hm
  rcases h.2 with ⟨e, h0⟩ | ⟨g, cap, cur, e, hg, hh, hn, hmx, hcs, ht⟩
  · injection e with e1 e2 e3
    subst e1 e2 e3
    have : bs = [] := List.eq_nil_of_length_eq_zero h0
    subst this
    exact ⟨⟨rfl, Nat.le_refl _, fun h => absurd h (by omega)⟩, rfl⟩
  · injection e with e1 e2 e3
    subst e1 e2 e3
    refine ⟨⟨rfl, hn, fun _ => ⟨g, 0, cur, _, (0, 0), rfl, ⟨isB_u8, hh⟩, fun j hj => ?_⟩⟩, rfl⟩
    have : cur.toList.take (bs.length * 1) = bvals bs := ht
    have h1 : (bvals bs)[j]? = some (.int .u8 (bs[j].toNat : Int)) := by simp [bvals, hj]
    rw [← h1, ← this, List.getElem?_take, if_pos (by omega), Nat.zero_add]
    simp

theorem BytesR.cells {w : World} {g o n c : Nat} {bs : List UInt8} (h : BytesR w (some ⟨g, o, none⟩) n c bs) : ∀ j u, (bvals bs)[j]? = some u → w.cell? ((⟨g, o, none⟩ : Addr).add j) = some u := by
  intro j u hj
  have hlt : j < bs.length := by have := (List.getElem?_eq_some_iff.1 hj).1; simpa [bvals] using this
  obtain ⟨g', o', cs, t, fr, e, ⟨_, hg⟩, hc⟩ := h.2.2 (by have := h.1; omega)
  injection e with e
  injection e with e1 e2 _
  subst e1 e2
  have hadd : (⟨g, o, none⟩ : Addr).add j = ⟨g, o + j, none⟩ := by unfold Addr.add; split <;> simp_all
  rw [hadd, cell_of_row w g _ cs _ fr hg, hc j hlt, ← hj]
  simp [bvals, hlt]
theorem BytesAt.cells {w : World} {g o n c : Nat} {bs : List UInt8} (h : BytesAt w (some ⟨g, o, none⟩) n c bs) : ∀ j u, (bvals bs)[j]? = some u → w.cell? ((⟨g, o, none⟩ : Addr).add j) = some u := h.r.cells
theorem bvals_one (bs : List UInt8) : ∀ u ∈ bvals bs, u.oneCell' = true := by
  intro u hu
  obtain ⟨b, _, rfl⟩ := List.mem_map.1 hu
  rfl

set_option maxHeartbeats 1000000 in
theorem clone_any {w : World} {A : Option Addr} {n c : Nat} {bs : List UInt8} (h : BytesR w A n c bs) (h0 : 0 < n) (h1 : n ≤ 2199023255552) :
    Calls Try.prog 55 #[.slice A n c] w fun e w' => ∃ A' c', e = .returned (.slice A' n c') ∧ BytesAt w' A' n c' bs ∧ Below w.heap.size w w' := by
  obtain ⟨g, o, cs, t, fr, rfl, _, _⟩ := h.2.2 h0
  obtain ⟨i0, hi, hz0, hz1, hz2⟩ := info_parts infoU8
  have q22 : ∀ (w : World) (a : Option Addr) (n c n' c' : Nat), (binOp .eql 37 (.slice a n c) (.slice none n' c')).run Try.prog w = .ok (.bool a.isNone) w := fun w a n c n' c' => Lib.run_eql_slice_nil w _ _ a n c n' c' Try.underlying37
  have hl := h.1
  have H := Lib.hid h
  clear h
  have Hl := Lib.hid hl
  clear hl
  go_enter Try.func55, Try.ntmps55
  go_wp2_with (at_builtin; go_loud (refine wpList_append_own _ rfl (.tmp 5) (.tmp 6) 37 rfl w.heap.size 5 i0 (.int .u8 0) 1 1 Try.underlying37 hi hz0 hz1 hz2 rfl (by decide) _ _ _ rfl (World.ownsRow_made w #[] 0 (Nat.le_refl _) (Nat.zero_le _) (by simp)) ⟨g, o, none⟩ n c (bvals bs) rfl ?c1 ?c2 ?c3 ?c4 ?c5 ?c6 ?_))
  case c1 => rw [Nat.mul_one, bvals, List.length_map]; exact Hl.out
  case c2 => exact (H.out.keep (KeepT.of_below ((Below.refl _ _).alloc (Nat.le_refl _) _))).cells
  case c3 => exact bvals_one _
  case c4 => unfold maxLen; omega
  case c5 => omega
  case c6 => simp
  intro v' w1 hown hgrow hnil
  have hb : Below w.heap.size w w1 := ((Below.refl _ w).alloc (Nat.le_refl _) _).grown hgrow (by simp) (by intro k hk; simp [Value.ownBlock] at hk; omega)
  have Hown := Lib.hid hown
  clear hown hgrow hnil
  go_wp2
  go_ret
  obtain ⟨A', m', c', rfl⟩ := ownsRow_slice Hown.out
  obtain ⟨hB, e⟩ := BytesAt.of_own (bs := bs) (by simpa using Hown.out) Hl.out.symm
  have e2 : m' = n := by omega
  subst e2
  exact ⟨A', c', rfl, hB, hb⟩

set_option maxHeartbeats 1000000 in
theorem growB_any (n : Nat) (h0 : 0 < n) (h1 : n ≤ 2199023255552) (w : World) :
    Calls Try.prog 77 #[.slice none 0 0, .int .i64 n] w fun e w' => ∃ g c, e = .returned (.slice (some ⟨g, 0, none⟩) 0 c) ∧ w'.ownsRow w.heap.size 5 1 (.slice (some ⟨g, 0, none⟩) 0 c) 0 [] ∧ Below w.heap.size w w' := by
  obtain ⟨i0, hi, hz0, hz1, hz2⟩ := info_parts infoU8
  have hpos : (n : Int) > 0 := by omega
  go_enter Try.func77, Try.ntmps77
  go_wp2_with (at_builtin; go_loud (refine Lib.wpList_append_run _ rfl (.tmp 20) (.tmp 21) _ _ rfl (.slice none 0 0) (.int .i64 n) rfl rfl _ _ (Lib.run_append_nil_zeros _ 37 3 _ 5 i0 (.int .u8 0) .i64 .i64 Try.underlying37 Try.underlying3 hi hz0 n h0 (by rw [hz1]; omega) (by omega) (by rw [hz2]; omega)) ?_))
  go_ret
  refine ⟨w.heap.size, _, rfl, ?_, ?_⟩
  · refine World.ownsRow_made w.drew _ _ (Nat.le_refl _) (grownCap_le_maxLen w n 0 5 (by unfold maxLen; omega)) ?_
    have := grownCap_ge w n 0 5
    rw [Array.size_append, size_zeroCells, size_zeroCells]
    show n * 1 + (grownCap w n 0 5 - n) * 1 = grownCap w n 0 5 * 1
    omega
  · exact (Below.refl _ w).drew.alloc (Nat.le_refl _) _
end Go.Proofs.Ytccfimgpbmkpiaa
