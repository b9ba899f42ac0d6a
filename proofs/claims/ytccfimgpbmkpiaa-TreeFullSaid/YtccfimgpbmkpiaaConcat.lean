/- slices.Concat over bytes. Conditions: each slice holds at least one byte, all together at most 2^41. -/
import Derived.Test.YtccfimgpbmkpiaaClone
namespace Go.Proofs.Ytccfimgpbmkpiaa
set_option linter.unusedVariables false
set_option linter.unusedSimpArgs false
set_option maxRecDepth 100000
open Go.RowKit Go.MapKept

structure BS where
  ad : Option Addr
  len : Nat
  cap : Nat
  bs : List UInt8
def BS.v (x : BS) : Value := .slice x.ad x.len x.cap
/-- Slices of bytes behind a slice. -/
def BssAt (w : World) (A : Option Addr) (n : Nat) (l : List BS) : Prop :=
  l.length = n ∧ (0 < n → ∃ g o cs fr, A = some ⟨g, o, none⟩ ∧ w.heap[g]? = some (.cells cs 37 fr) ∧ ∀ j (h : j < l.length), cs[o + j]? = some l[j].v) ∧ ∀ x ∈ l, BytesR w x.ad x.len x.cap x.bs
def sumB (l : List BS) : Nat := (l.map (·.len)).sum
def catB (l : List BS) : List UInt8 := l.flatMap (·.bs)

theorem BssAt.below {w w' : World} {A : Option Addr} {n : Nat} {l : List BS} (h : BssAt w A n l) (hb : Below w.heap.size w w') : BssAt w' A n l := by
  refine ⟨h.1, fun hn => ?_, fun x hx => (h.2.2 x hx).keep (KeepT.of_below hb)⟩
  obtain ⟨g, o, cs, fr, e, hg, hc⟩ := h.2.1 hn
  exact ⟨g, o, cs, fr, e, (hb.block g (heap_lt hg)).trans hg, hc⟩
theorem BssAt.at_ {w : World} {A : Option Addr} {n : Nat} {l : List BS} (h : BssAt w A n l) {k : Nat} (hk : k < n) :
    ∃ g o x, A = some ⟨g, o, none⟩ ∧ l[k]? = some x ∧ g < w.heap.size ∧ w.cell? ⟨g, o + k, none⟩ = some (.slice x.ad x.len x.cap) := by
  obtain ⟨g, o, cs, fr, e, hg, hc⟩ := h.2.1 (by omega)
  have hl : k < l.length := by have := h.1; omega
  exact ⟨g, o, l[k], e, List.getElem?_eq_getElem hl, heap_lt hg, (cell_of_row w g _ cs _ fr hg).trans (hc k hl)⟩
theorem sumB_snoc (l : List BS) (k : Nat) (x : BS) (h : l[k]? = some x) : sumB (l.take (k + 1)) = sumB (l.take k) + x.len := by
  unfold sumB
  rw [List.take_add_one, h, Option.toList_some, List.map_append, List.sum_append]; simp
theorem sumB_take (l : List BS) (k : Nat) : sumB (l.take k) ≤ sumB l := by
  unfold sumB
  conv => rhs; rw [← List.take_append_drop k l, List.map_append, List.sum_append]
  omega
theorem catB_snoc (l : List BS) (k : Nat) (x : BS) (h : l[k]? = some x) : catB (l.take (k + 1)) = catB (l.take k) ++ x.bs := by
  unfold catB
  rw [List.take_add_one, h, Option.toList_some, List.flatMap_append]; simp

theorem ownsRow_base {w : World} {base base' : Nat} {e : TypeId} {size : Nat} {v : Value} {n : Nat} {xs : List Value} (h : w.ownsRow base' e size v n xs) (hb : base ≤ base') : w.ownsRow base e size v n xs := by
  refine ⟨h.1, ?_⟩
  rcases h.2 with h2 | ⟨g, cap, cur, hv, hg, r⟩
  · exact .inl h2
  · exact .inr ⟨g, cap, cur, hv, Nat.le_trans hb hg, r⟩

set_option maxHeartbeats 1000000 in
theorem concat_any {w : World} {A : Option Addr} {n c : Nat} {l : List BS} (h : BssAt w A n l) (hn : n ≤ 1048576) (hpos : ∀ x ∈ l, 0 < x.len) (h0 : 0 < sumB l) (h1 : sumB l ≤ 2199023255552) :
    Calls Try.prog 54 #[.slice A n c] w fun e w' => ∃ A' c', e = .returned (.slice A' (sumB l) c') ∧ BytesAt w' A' (sumB l) c' (catB l) ∧ Below w.heap.size w w' := by
  obtain ⟨i0, hi, hz0, hz1, hz2⟩ := info_parts infoU8
  have hl := h.1
  have H := Lib.hid h
  have Hpos := Lib.hid hpos
  have Hl := Lib.hid hl
  clear h hpos hl
  go_enter Try.func54, Try.ntmps54
  go_wp2_with fail
  go_loopw [3, 5, 11] (fun s x i wr => ∃ k : Nat, k ≤ n ∧ i = .int .i64 k ∧ s = .int .i64 (sumB (l.take k)) ∧ Below w.heap.size w wr) (fun _ _ i _ => n - (intOf i).toNat)
  case atStart => exact ⟨0, Nat.zero_le _, rfl, rfl, Below.refl _ _⟩
  case round =>
    obtain ⟨k, hk, rfl, rfl, hb0⟩ := hrel
    have hst := sumB_take l k
    by_cases hlt : k < n
    · obtain ⟨g, o, x, rfl, hx, hg, h2⟩ := (H.out.below hb0).at_ hlt
      have hsn := sumB_snoc l k x hx
      have hst1 := sumB_take l (k + 1)
      have hpl : sumB (l.take k) + x.len ≤ sumB l := by omega
      have Hsn := Lib.hid hsn
      clear hx hsn hst1
      go_wp2_with fail
      go_roundw
      case rel => exact ⟨k + 1, by omega, by go_num, by rw [Hsn.out]; go_num, hb0⟩
      case measure => simp [intOf]; omega
    · obtain rfl : k = n := by omega
      have e : l.take k = l := List.take_of_length_le (by rw [Hl.out]; exact Nat.le_refl _)
      rw [e]
      clear e hk hlt hst
      go_wp2_with (go_at_call 77; refine (growB_any (sumB l) h0 h1 _).mono ?_; rintro e w1 ⟨g1, c1, rfl, hown, hb1⟩; have hb1' := hb0.trans (hb1.mono hb0.size); have Hown := Lib.hid (ownsRow_base hown hb0.size); clear hown)
      go_loopw [6, 8, 27] (fun v x i wr => ∃ j : Nat, j ≤ k ∧ i = .int .i64 j ∧ wr.ownsRow w.heap.size 5 1 v (sumB (l.take j)) (bvals (catB (l.take j))) ∧ Below w.heap.size w wr) (fun _ _ i _ => k - (intOf i).toNat)
      case atStart => exact ⟨0, Nat.zero_le _, rfl, Hown.out, hb1'⟩
      case round =>
        clear Hown hb1 hb1' hb0
        obtain ⟨j, hj, rfl, hown, hb⟩ := hrel
        have hst := sumB_take l j
        by_cases hlt : j < k
        · obtain ⟨g, o, x, rfl, hx, hg, h2⟩ := (H.out.below hb).at_ hlt
          have hxm := List.mem_of_getElem? hx
          have hB := (H.out.below hb).2.2 x hxm
          obtain ⟨gx, ox, cs, t, fr, hxa, _, _⟩ := hB.2.2 (Hpos.out x hxm)
          rw [hxa] at h2 hB
          have hst1 := sumB_take l (j + 1)
          have hsn := sumB_snoc l j x hx
          have hpl : sumB (l.take j) + x.len ≤ sumB l := by omega
          have Hsn := Lib.hid (And.intro hsn (catB_snoc l j x hx))
          have Hown := Lib.hid hown
          have HB := Lib.hid hB
          clear hx hsn hst1 hxa hown hB
          go_wp2_with (at_builtin; go_loud (refine wpList_append_own _ rfl (.tmp 31) (.tmp 32) 37 rfl w.heap.size 5 i0 (.int .u8 0) 1 1 Try.underlying37 hi hz0 hz1 hz2 rfl (by decide) _ _ _ rfl Hown.out ⟨gx, ox, none⟩ x.len x.cap (bvals x.bs) rfl ?c1 ?c2 ?c3 ?c4 ?c5 ?c6 ?_))
          case c1 => rw [Nat.mul_one, bvals, List.length_map]; exact HB.out.1
          case c2 => exact HB.out.cells
          case c3 => exact bvals_one _
          case c4 => unfold maxLen; omega
          case c5 => omega
          case c6 => exact hb.size
          intro v' w1 hown1 hgrow hnil
          have hb2 : Below w.heap.size w w1 := hb.grown hgrow hb.size (fun y hy => (Hown.out.lt y hy).1)
          have hown2 : w1.ownsRow w.heap.size 5 1 v' (sumB (l.take (j + 1))) (bvals (catB (l.take (j + 1)))) := by
            rw [Hsn.out.1, Hsn.out.2]
            have : bvals (catB (l.take j) ++ x.bs) = bvals (catB (l.take j)) ++ bvals x.bs := by simp [bvals]
            rw [this]; exact hown1
          have Hown2 := Lib.hid hown2
          clear hown1 hgrow hnil hown2
          go_wp2_with fail
          go_roundw
          case rel => exact ⟨j + 1, by omega, by go_num, Hown2.out, hb2⟩
          case measure => simp [intOf]; omega
        · obtain rfl : j = k := by omega
          have e : l.take j = l := List.take_of_length_le (by rw [Hl.out]; exact Nat.le_refl _)
          rw [e] at hown
          have Hown := Lib.hid hown
          clear hown e hst
          go_wp2_with fail
          go_ret
          obtain ⟨A', m', c', rfl⟩ := ownsRow_slice Hown.out
          have hlen : sumB l = (catB l).length := by
            unfold sumB catB
            rw [List.length_flatMap]
            congr 1
            exact List.map_congr_left fun x hx => (H.out.2.2 x hx).1.symm
          obtain ⟨hB, e⟩ := BytesAt.of_own (bs := catB l) Hown.out hlen
          subst e
          exact ⟨A', c', rfl, hB, hb⟩
end Go.Proofs.Ytccfimgpbmkpiaa
