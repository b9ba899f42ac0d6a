/- tree.bytes, tree.part, tree.fits over pieces that lie in memory. Conditions: the sums stay below 2^62. -/
import Derived.Test.YtccfimgpbmkpiaaFsB
import Derived.Test.YtccfimgpbmkpiaaStr
import Derived.Deep.Light
import Derived.Deep.QuietTactic
import Derived.BigQuiet
import Derived.Lib.Hide
import Derived.Outline
namespace Go.Proofs.Ytccfimgpbmkpiaa
set_option linter.unusedVariables false
set_option linter.unusedSimpArgs false
set_option maxRecDepth 100000
open Go.RowKit Go.MapKept

def sumLen (ps : List CP) : Nat := (ps.map (·.len)).sum
theorem sumLen_snoc (ps : List CP) (k : Nat) (p : CP) (h : ps[k]? = some p) : sumLen (ps.take (k + 1)) = sumLen (ps.take k) + p.len := by
  unfold sumLen
  rw [List.take_add_one, h, Option.toList_some, List.map_append, List.sum_append]; simp
theorem sumLen_take (ps : List CP) (k : Nat) : sumLen (ps.take k) ≤ sumLen ps := by
  unfold sumLen
  conv => rhs; rw [← List.take_append_drop k ps, List.map_append, List.sum_append]
  omega

theorem PcsAt.at_ {w : World} {A : Option Addr} {n c : Nat} {ps : List CP} (h : PcsAt w A n c ps) {k : Nat} (hk : k < n) :
    ∃ g o p, A = some ⟨g, o, none⟩ ∧ ps[k]? = some p ∧ g < w.heap.size ∧ w.cell? ⟨g, o + k * 2, none⟩ = some (.int .i64 p.at_) ∧ w.cell? ⟨g, o + k * 2 + 1, none⟩ = some (.slice p.ad p.len p.cap) := by
  obtain ⟨g, o, cs, fr, e, hg, hc⟩ := h.2.2.1 (by omega)
  have hl : k < ps.length := by have := h.1; omega
  refine ⟨g, o, ps[k], e, List.getElem?_eq_getElem hl, heap_lt hg, ?_, ?_⟩
  · rw [cell_of_row w g _ cs _ fr hg, Nat.mul_comm]; exact (hc k hl).1
  · rw [cell_of_row w g _ cs _ fr hg, Nat.mul_comm, Nat.add_assoc]; exact (hc k hl).2

theorem PcsR.at_ {w : World} {A : Option Addr} {n c : Nat} {ps : List CP} (h : PcsR w A n c ps) {k : Nat} (hk : k < n) :
    ∃ g o p, A = some ⟨g, o, none⟩ ∧ ps[k]? = some p ∧ g < w.heap.size ∧ w.cell? ⟨g, o + k * 2, none⟩ = some (.int .i64 p.at_) ∧ w.cell? ⟨g, o + k * 2 + 1, none⟩ = some (.slice p.ad p.len p.cap) := by
  obtain ⟨g, o, cs, fr, e, hg, hc⟩ := h.2.2.1 (by omega)
  have hl : k < ps.length := by have := h.1; omega
  refine ⟨g, o, ps[k], e, List.getElem?_eq_getElem hl, heap_lt hg, ?_, ?_⟩
  · rw [cell_of_row w g _ cs _ fr hg, Nat.mul_comm]; exact (hc k hl).1
  · rw [cell_of_row w g _ cs _ fr hg, Nat.mul_comm, Nat.add_assoc]; exact (hc k hl).2

theorem bytes_any {w : World} {A : Option Addr} {n c : Nat} {ps : List CP} (h : PcsAt w A n c ps) (hn : n ≤ 1048576) (hs : sumLen ps < 4611686018427387904) :
    Calls Try.prog 35 #[.slice A n c] w fun e w' => e = .returned (.int .i64 (sumLen ps)) ∧ Below w.heap.size w w' := by
  have H := Lib.hid h
  clear h
  go_enter Try.func35, Try.ntmps35
  go_wp2_with fail
  go_loopw [3, 8] (fun s i wr => ∃ k : Nat, k ≤ n ∧ i = .int .i64 k ∧ s = .int .i64 (sumLen (ps.take k)) ∧ Below w.heap.size w wr) (fun _ i _ => n - (intOf i).toNat)
  case atStart => exact ⟨0, Nat.zero_le _, rfl, rfl, Below.refl _ _⟩
  case round =>
    obtain ⟨k, hk, rfl, rfl, hb⟩ := hrel
    have hst := sumLen_take ps k
    by_cases hlt : k < n
    · obtain ⟨g, o, p, rfl, hp, hg, h1, h2⟩ := (H.out.keep (KeepT.of_below hb)).at_ hlt
      have hsn := sumLen_snoc ps k p hp
      have hst1 := sumLen_take ps (k + 1)
      have hpl : sumLen (ps.take k) + p.len ≤ sumLen ps := by omega
      have Hsn := Lib.hid hsn
      clear hp hsn hst1
      go_wp2_with fail
      go_roundw
      case rel => exact ⟨k + 1, by omega, by go_num, by rw [Hsn.out]; go_num, hb.alloc hb.size _⟩
      case measure => simp [intOf]; omega
    · obtain rfl : k = n := by omega
      have e : ps.take k = ps := List.take_of_length_le (by rw [H.out.1]; exact Nat.le_refl _)
      rw [e]
      go_wp2_with fail
      go_ret
      exact ⟨rfl, hb⟩

theorem infoPiece : (Try.prog.info? 54).map (fun i => (i.zero, i.size, i.bytes)) = some (some (.agg #[.int .i64 0, .slice none 0 0]), 2, 32) := by kernel_rfl

/-- A piece's part from a to b. -/
def CP.cut (p : CP) (a b : Int) : CP := ⟨a, p.ad.map (·.add (a - p.at_).toNat), (b - p.at_).toNat - (a - p.at_).toNat, (b - p.at_).toNat - (a - p.at_).toNat, (p.bs.drop (a - p.at_).toNat).take ((b - p.at_).toNat - (a - p.at_).toNat)⟩
/-- part. -/
def partL (ps : List CP) (from_ to : Int) : List CP :=
  ps.filterMap fun p => if max p.at_ from_ < min (p.at_ + (p.len : Int)) to then some (p.cut (max p.at_ from_) (min (p.at_ + (p.len : Int)) to)) else none
def pcells (ps : List CP) : List Value := ps.flatMap fun p => [.int .i64 p.at_, p.v]
/-- Pieces are where numbers go. -/
def PcOk (ps : List CP) : Prop := ∀ p ∈ ps, 0 ≤ p.at_ ∧ p.at_ + (p.len : Int) ≤ 2199023255552

theorem partL_yes (ps : List CP) (f t : Int) (k : Nat) (p : CP) (h : ps[k]? = some p) (hlt : max p.at_ f < min (p.at_ + (p.len : Int)) t) : partL (ps.take (k + 1)) f t = partL (ps.take k) f t ++ [p.cut (max p.at_ f) (min (p.at_ + (p.len : Int)) t)] := by
  unfold partL
  rw [List.take_add_one, h, Option.toList_some, List.filterMap_append]
  simp [hlt]
theorem partL_no (ps : List CP) (f t : Int) (k : Nat) (p : CP) (h : ps[k]? = some p) (hlt : ¬ max p.at_ f < min (p.at_ + (p.len : Int)) t) : partL (ps.take (k + 1)) f t = partL (ps.take k) f t := by
  unfold partL
  rw [List.take_add_one, h, Option.toList_some, List.filterMap_append]
  simp [hlt]
theorem partL_length (ps : List CP) (f t : Int) : (partL ps f t).length ≤ ps.length := List.length_filterMap_le _ _
theorem pcells_length (ps : List CP) : (pcells ps).length = ps.length * 2 := by
  unfold pcells
  induction ps with
  | nil => rfl
  | cons p ps ih => simp only [List.flatMap_cons, List.length_append, List.length_cons, List.length_nil, ih]; omega

theorem belowN {B : Nat} {a w : World} (h : Below B a w) (n : Nat) : Below B a (w.drewN n) := ⟨h.os, h.tape, h.output, h.size, h.block⟩
theorem ownsRowN {w : World} {base : Nat} {e : TypeId} {size : Nat} {v : Value} {n : Nat} {xs : List Value} (h : w.ownsRow base e size v n xs) (k : Nat) : (w.drewN k).ownsRow base e size v n xs := h
theorem cells2_new (w : World) (t : TypeId) (u v : Value) : ∀ j x, [u, v][j]? = some x → (w.alloc (.cells #[u, v] t)).cell? ((⟨w.heap.size, 0, none⟩ : Addr).add j) = some x := by
  intro j x hj
  have hj2 : j = 0 ∨ j = 1 := by
    have := (List.getElem?_eq_some_iff.1 hj).1
    simp at this; omega
  rcases hj2 with rfl | rfl
  · rw [← hj]; exact World.cell?_alloc_new w _ _ 0
  · rw [← hj]; exact World.cell?_alloc_new w _ _ 1
theorem pcells_snoc (ps : List CP) (p : CP) : pcells (ps ++ [p]) = pcells ps ++ [.int .i64 p.at_, p.v] := by simp [pcells]

/-- What part hands back. -/
def PartPost (w : World) (m : List CP) (e : Ending) (w' : World) : Prop :=
  ∃ A n c, e = .returned (.slice A n c) ∧ w'.ownsRow w.heap.size 54 2 (.slice A n c) m.length (pcells m) ∧ Below w.heap.size w w'

theorem ownsRow_slice {w : World} {base : Nat} {e : TypeId} {size : Nat} {v : Value} {n : Nat} {xs : List Value} (h : w.ownsRow base e size v n xs) : ∃ A m c, v = .slice A m c := by
  rcases h.2 with ⟨rfl, _⟩ | ⟨g, cap, cur, rfl, _⟩
  · exact ⟨_, _, _, rfl⟩
  · exact ⟨_, _, _, rfl⟩

set_option maxHeartbeats 1000000 in
theorem part_any {w : World} {A : Option Addr} {n c : Nat} {ps : List CP} (h : PcsAt w A n c ps) (hn : n ≤ 1048576) (hok : PcOk ps) (f t : Int) :
    Calls Try.prog 36 #[.slice A n c, .int .i64 f, .int .i64 t] w (PartPost w (partL ps f t)) := by
  have H := Lib.hid h
  have Hok := Lib.hid hok
  clear h hok
  obtain ⟨i0, hi, hz0, hz1, hz2⟩ := info_parts infoPiece
  go_enter Try.func36, Try.ntmps36
  go_wp2_with fail
  go_loopw [7, 14] (fun s i wr => ∃ k : Nat, k ≤ n ∧ i = .int .i64 k ∧ wr.ownsRow w.heap.size 54 2 s (partL (ps.take k) f t).length (pcells (partL (ps.take k) f t)) ∧ Below w.heap.size w wr) (fun _ i _ => n - (intOf i).toNat)
  case atStart => exact ⟨0, Nat.zero_le _, rfl, World.ownsRow_nil _ _ _ _, Below.refl _ _⟩
  case round =>
    obtain ⟨k, hk, rfl, hown, hb⟩ := hrel
    by_cases hlt : k < n
    · obtain ⟨g, o, p, rfl, hp, hg, h1, h2⟩ := (H.out.keep (KeepT.of_below hb)).at_ hlt
      obtain ⟨b0, b1⟩ := Hok.out p (List.mem_of_getElem? hp)
      have hcap : p.len ≤ p.cap := (H.out.2.2.2 p (List.mem_of_getElem? hp)).2.1
      have HP := Lib.hid hp
      have Hown := Lib.hid hown
      clear hp hown
      have hlen : (partL (ps.take k) f t).length ≤ k := Nat.le_trans (partL_length _ _ _) (by simp; omega)
      by_cases hab : max p.at_ f < min (p.at_ + (p.len : Int)) t
      · have Hab := Lib.hid hab
        have a0 : p.at_ ≤ max p.at_ f := by omega
        have a1 : min (p.at_ + (p.len : Int)) t ≤ p.at_ + (p.len : Int) := by omega
        go_wp2_with fail
        go_quiet (fail)
        go_wp2_with (at_builtin; go_loud (refine wpList_append_own _ rfl (.tmp 33) (.tmp 51) 51 rfl w.heap.size 54 i0 (.agg #[.int .i64 0, .slice none 0 0]) 2 32 Try.underlying51 hi hz0 hz1 hz2 rfl (by decide) _ _ _ rfl ((ownsRowN (Hown.out.alloc _) nq).alloc _) ⟨wr.heap.size + 1, 0, none⟩ 1 1 [.int .i64 (max p.at_ f), (p.cut (max p.at_ f) (min (p.at_ + (p.len : Int)) t)).v] rfl rfl ?c1 ?c2 ?c3 ?c4 ?c5 ?_))
        case c1 =>
          intro j u hj
          have := cells2_new ((wr.alloc (.cells #[.int .i64 p.at_, .slice p.ad p.len p.cap] 54)).drewN nq) 54 _ _ j u hj
          rw [show ((wr.alloc (.cells #[.int .i64 p.at_, .slice p.ad p.len p.cap] 54)).drewN nq).heap.size = wr.heap.size + 1 from World.size_alloc _ _] at this
          exact this
        case c2 =>
          intro u hu
          have hu2 : u = .int .i64 (max p.at_ f) ∨ u = (p.cut (max p.at_ f) (min (p.at_ + (p.len : Int)) t)).v := by simpa using hu
          rcases hu2 with rfl | rfl <;> rfl
        case c3 => unfold maxLen; omega
        case c4 => omega
        case c5 => have := hb.size; simp; omega
        · intro v' w1 hown' hgrow _
          have hb2 : Below w.heap.size w w1 := by
            refine ((belowN (hb.alloc hb.size _) nq).alloc ?_ _).grown hgrow ?_ ?_
            · have := hb.size; simp; omega
            · have := hb.size; simp; omega
            · exact fun y hy => (Hown.out.lt y hy).1
          have hown2 : w1.ownsRow w.heap.size 54 2 v' (partL (ps.take (k + 1)) f t).length (pcells (partL (ps.take (k + 1)) f t)) := by
            rw [partL_yes ps f t k p HP.out Hab.out, pcells_snoc, List.length_append]
            exact hown'
          have Hown2 := Lib.hid hown2
          clear hown' hgrow hown2
          go_wp2_with fail
          go_roundw
          case rel => exact ⟨k + 1, by omega, by go_num, Hown2.out, hb2⟩
          case measure => simp [intOf]; omega
      · have Hab := Lib.hid hab
        have hb' := hb.alloc hb.size (.cells #[.int .i64 p.at_, .slice p.ad p.len p.cap] 54)
        go_wp2_with fail
        go_quiet (fail)
        go_wp2_with fail
        go_roundw
        case rel => exact ⟨k + 1, by omega, by go_num, by rw [partL_no ps f t k p HP.out (by have := Hab.out; omega)]; exact ownsRowN (Hown.out.alloc _) nq, belowN hb' nq⟩
        case measure => simp [intOf]; omega
    · obtain rfl : k = n := by omega
      have e : ps.take k = ps := List.take_of_length_le (by rw [H.out.1]; exact Nat.le_refl _)
      rw [e] at hown
      have Hown := Lib.hid hown
      clear hown
      go_wp2_with fail
      go_ret
      obtain ⟨A', m', c', rfl⟩ := ownsRow_slice Hown.out
      exact ⟨A', m', c', rfl, Hown.out, hb⟩

theorem pcells_get (ps : List CP) : ∀ (j : Nat) (h : j < ps.length), (pcells ps)[2 * j]? = some (.int .i64 ps[j].at_) ∧ (pcells ps)[2 * j + 1]? = some ps[j].v := by
  induction ps with
  | nil => intro j h; cases h
  | cons p ps ih =>
    intro j h
    have e : pcells (p :: ps) = .int .i64 p.at_ :: p.v :: pcells ps := rfl
    cases j with
    | zero => rw [e]; exact ⟨rfl, rfl⟩
    | succ j =>
      obtain ⟨h1, h2⟩ := ih j (by simpa using h)
      rw [e, show 2 * (j + 1) = 2 * j + 1 + 1 from by omega]
      exact ⟨by simpa using h1, by simpa using h2⟩

/-- A row of the call's own that holds pieces. -/
theorem PcsAt.of_own {w : World} {base : Nat} {A : Option Addr} {n c m : Nat} {ps : List CP} (h : w.ownsRow base 54 2 (.slice A n c) m (pcells ps)) (hm : m = ps.length) (hb : ∀ p ∈ ps, BytesAt w p.ad p.len p.cap p.bs) : PcsAt w A n c ps ∧ n = m := by
  subst hm
  rcases h.2 with ⟨e, h0⟩ | ⟨g, cap, cur, e, hg, hh, hn, hmx, hcs, ht⟩
  · injection e with e1 e2 e3
    subst e1 e2 e3
    have : ps = [] := List.eq_nil_of_length_eq_zero h0
    subst this
    exact ⟨PcsAt.nil w, rfl⟩
  · injection e with e1 e2 e3
    subst e1 e2 e3
    refine ⟨⟨rfl, hn, fun _ => ⟨g, 0, cur, (0, 0), rfl, hh, fun j hj => ?_⟩, hb⟩, rfl⟩
    obtain ⟨h1, h2⟩ := pcells_get ps j hj
    have key : ∀ i, i < ps.length * 2 → cur[0 + i]? = (pcells ps)[i]? := by
      intro i hi
      rw [← ht, List.getElem?_take, if_pos hi, Nat.zero_add]
      simp
    exact ⟨(key _ (by omega)).trans h1, (key _ (by omega)).trans h2⟩

theorem PcsR.of_own {w : World} {base : Nat} {A : Option Addr} {n c m : Nat} {ps : List CP} (h : w.ownsRow base 54 2 (.slice A n c) m (pcells ps)) (hm : m = ps.length) (hb : ∀ p ∈ ps, BytesR w p.ad p.len p.cap p.bs) : PcsR w A n c ps ∧ n = m := by
  subst hm
  rcases h.2 with ⟨e, h0⟩ | ⟨g, cap, cur, e, hg, hh, hn, hmx, hcs, ht⟩
  · injection e with e1 e2 e3
    subst e1 e2 e3
    have : ps = [] := List.eq_nil_of_length_eq_zero h0
    subst this
    exact ⟨PcsR.nil w, rfl⟩
  · injection e with e1 e2 e3
    subst e1 e2 e3
    refine ⟨⟨rfl, hn, fun _ => ⟨g, 0, cur, (0, 0), rfl, hh, fun j hj => ?_⟩, hb⟩, rfl⟩
    obtain ⟨h1, h2⟩ := pcells_get ps j hj
    have key : ∀ i, i < ps.length * 2 → cur[0 + i]? = (pcells ps)[i]? := by
      intro i hi
      rw [← ht, List.getElem?_take, if_pos hi, Nat.zero_add]
      simp
    exact ⟨(key _ (by omega)).trans h1, (key _ (by omega)).trans h2⟩

theorem BytesAt.cut {w : World} {p : CP} (h : BytesAt w p.ad p.len p.cap p.bs) {a b : Int} (h1 : p.at_ ≤ a) (h2 : a < b) (h3 : b ≤ p.at_ + (p.len : Int)) : BytesAt w (p.cut a b).ad (p.cut a b).len (p.cut a b).cap (p.cut a b).bs := by
  have hl := h.1
  refine ⟨?_, Nat.le_refl _, fun hn => ?_⟩
  · simp only [CP.cut, List.length_take, List.length_drop]; omega
  · obtain ⟨g, o, cs, t, fr, e, hg, hc⟩ := h.2.2 (by omega)
    refine ⟨g, o + (a - p.at_).toNat, cs, t, fr, ?_, hg, fun j hj => ?_⟩
    · simp only [CP.cut, e, Option.map_some]
      congr 1
      unfold Addr.add
      split
      · rename_i h0; simp only [h0, Nat.add_zero]
      · rfl
    · simp only [CP.cut, List.length_take, List.length_drop] at hj
      have := hc ((a - p.at_).toNat + j) (by omega)
      rw [Nat.add_assoc, this]
      simp [CP.cut]

theorem partL_mem {ps : List CP} {f t : Int} {q : CP} (h : q ∈ partL ps f t) : ∃ p ∈ ps, max p.at_ f < min (p.at_ + (p.len : Int)) t ∧ q = p.cut (max p.at_ f) (min (p.at_ + (p.len : Int)) t) := by
  obtain ⟨p, hp, hq⟩ := List.mem_filterMap.1 h
  split at hq
  · rename_i hlt; injection hq with hq; exact ⟨p, hp, hlt, hq.symm⟩
  · cases hq
theorem part_bytes {w w' : World} {ps : List CP} (h : ∀ p ∈ ps, BytesAt w p.ad p.len p.cap p.bs) (hb : KeepT isData w w') (f t : Int) : ∀ q ∈ partL ps f t, BytesAt w' q.ad q.len q.cap q.bs := by
  intro q hq
  obtain ⟨p, hp, hlt, rfl⟩ := partL_mem hq
  exact ((h p hp).keep hb).cut (by omega) hlt (by omega)
theorem PartPost.pcs {w w' : World} {A : Option Addr} {n c : Nat} {ps : List CP} (h : PcsAt w A n c ps) {f t : Int} {e : Ending} (hp : PartPost w (partL ps f t) e w') :
    ∃ A' n' c', e = .returned (.slice A' n' c') ∧ PcsAt w' A' n' c' (partL ps f t) ∧ n' = (partL ps f t).length ∧ w'.ownsRow w.heap.size 54 2 (.slice A' n' c') n' (pcells (partL ps f t)) ∧ Below w.heap.size w w' := by
  obtain ⟨A', n', c', rfl, hown, hb⟩ := hp
  obtain ⟨h1, h2⟩ := PcsAt.of_own hown rfl (part_bytes h.2.2.2 (KeepT.of_below hb) f t)
  exact ⟨A', n', c', rfl, h1, h2, h2 ▸ hown, hb⟩
theorem partL_ok {ps : List CP} (h : PcOk ps) (f t : Int) : PcOk (partL ps f t) := by
  intro q hq
  obtain ⟨p, hp, hlt, rfl⟩ := partL_mem hq
  have := h p hp
  simp only [CP.cut]
  omega
end Go.Proofs.Ytccfimgpbmkpiaa
