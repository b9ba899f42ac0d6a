/- tree.fits: how many of some bytes can be written, and how many of these are new ones. Conditions: pieces in order, numbers below 2^41, room from 0 to 2^62. -/
import Derived.Test.YtccfimgpbmkpiaaPcs
namespace Go.Proofs.Ytccfimgpbmkpiaa
set_option linter.unusedVariables false
set_option linter.unusedSimpArgs false
set_option maxRecDepth 100000
open Go.RowKit Go.MapKept

/-- Pieces in order, from lo on. -/
def Asc : Int → List CP → Prop
  | _, [] => True
  | lo, p :: ps => lo ≤ p.at_ ∧ Asc (p.at_ + (p.len : Int)) ps

theorem Asc.mono {lo lo' : Int} (h : lo' ≤ lo) : ∀ {ps : List CP}, Asc lo ps → Asc lo' ps
  | [], _ => trivial
  | _ :: _, ⟨h1, h2⟩ => ⟨by omega, h2⟩
theorem Asc.part {f t : Int} : ∀ {ps : List CP} {lo : Int}, Asc lo ps → Asc (max lo f) (partL ps f t)
  | [], _, _ => trivial
  | p :: ps, lo, ⟨h1, h2⟩ => by
    have ih := Asc.part (f := f) (t := t) h2
    unfold partL at ih ⊢
    rw [List.filterMap_cons]
    by_cases hlt : max p.at_ f < min (p.at_ + (p.len : Int)) t
    · rw [if_pos hlt]
      refine ⟨by simp only [CP.cut]; omega, ih.mono ?_⟩
      simp only [CP.cut]
      omega
    · rw [if_neg hlt]
      exact ih.mono (by omega)
/-- No piece ends behind hi. -/
def EndsBy (hi : Int) (ps : List CP) : Prop := ∀ p ∈ ps, p.at_ + (p.len : Int) ≤ hi
theorem EndsBy.part (ps : List CP) (f t : Int) : EndsBy t (partL ps f t) := by
  intro q hq
  obtain ⟨p, hp, hlt, rfl⟩ := partL_mem hq
  simp only [CP.cut]
  omega

/-- fits, from a place in the pieces on. -/
def fitsGo (at_ n room : Int) : List CP → Int → Int → Int × Int
  | [], pos, more => (pos + min (at_ + n - pos) (room - more) - at_, more + min (at_ + n - pos) (room - more))
  | p :: ps, pos, more => if room < more + (p.at_ - pos) then (pos + room - more - at_, room) else fitsGo at_ n room ps (p.at_ + (p.len : Int)) (more + (p.at_ - pos))
theorem fitsGo_stop {at_ n room : Int} {p : CP} {ps : List CP} {pos more : Int} (h : room < more + (p.at_ - pos)) : fitsGo at_ n room (p :: ps) pos more = (pos + room - more - at_, room) := if_pos h
theorem fitsGo_next {at_ n room : Int} {p : CP} {ps : List CP} {pos more : Int} (h : ¬ room < more + (p.at_ - pos)) : fitsGo at_ n room (p :: ps) pos more = fitsGo at_ n room ps (p.at_ + (p.len : Int)) (more + (p.at_ - pos)) := if_neg h
theorem fitsGo_nil (at_ n room pos more : Int) : fitsGo at_ n room [] pos more = (pos + min (at_ + n - pos) (room - more) - at_, more + min (at_ + n - pos) (room - more)) := rfl
def fitsL (ps : List CP) (at_ n room : Int) : Int × Int := fitsGo at_ n room (partL ps at_ (at_ + n)) at_ 0

theorem drop_cons {ps : List CP} {k : Nat} {p : CP} (h : ps[k]? = some p) : ps.drop k = p :: ps.drop (k + 1) := by
  obtain ⟨hk, rfl⟩ := List.getElem?_eq_some_iff.1 h
  exact List.drop_eq_getElem_cons hk

set_option maxHeartbeats 1000000 in
theorem fits_any {w : World} {A : Option Addr} {m c : Nat} {ps : List CP} (h : PcsAt w A m c ps) (hm : m ≤ 1048576) (hok : PcOk ps) {lo : Int} (hasc : Asc lo ps) (at_ n room : Int)
    (ha0 : 0 ≤ at_) (ha1 : at_ ≤ 1099511627776) (hn0 : 0 ≤ n) (hn1 : n ≤ 1099511627776) (hr0 : 0 ≤ room) (hr1 : room ≤ 4611686018427387904) :
    Calls Try.prog 33 #[.slice A m c, .int .i64 at_, .int .i64 n, .int .i64 room] w fun e w' =>
      e = .returned (.tuple #[.int .i64 (fitsL ps at_ n room).1, .int .i64 (fitsL ps at_ n room).2]) ∧ Below w.heap.size w w' := by
  have cP := part_any h hm hok at_ (at_ + n)
  have hasc2 : Asc at_ (partL ps at_ (at_ + n)) := (hasc.part (f := at_) (t := at_ + n)).mono (by omega)
  have hends := EndsBy.part ps at_ (at_ + n)
  have hlenp := partL_length ps at_ (at_ + n)
  have hm' := h.1
  have H := Lib.hid h
  have Hok := Lib.hid hok
  have Hok2 := Lib.hid (partL_ok hok at_ (at_ + n))
  have Ha := Lib.hid hasc2
  have He := Lib.hid hends
  clear h hok hasc hasc2 hends
  unfold fitsL
  generalize hq : partL ps at_ (at_ + n) = qs at *
  have Hq := Lib.hid hq
  clear hq
  go_enter Try.func33, Try.ntmps33
  go_wp2_with fail
  refine cP.mono ?_
  intro e w1 hp
  rw [← Hq.out] at hp
  obtain ⟨A', n', c', rfl, hpc, hlen, _, hb⟩ := PartPost.pcs H.out hp
  rw [Hq.out] at hpc hlen
  have hn'1 : n' ≤ 1048576 := by omega
  have HP := Lib.hid hpc
  have Hlen := Lib.hid hlen
  clear hpc hlen hp cP
  go_wp2_with fail
  go_loopw [9, 10, 23] (fun mo po i wr => ∃ (k : Nat) (M P : Int), k ≤ n' ∧ i = .int .i64 k ∧ mo = .int .i64 M ∧ po = .int .i64 P ∧ fitsGo at_ n room (qs.drop k) P M = fitsGo at_ n room qs at_ 0 ∧ Asc P (qs.drop k) ∧ at_ ≤ P ∧ P ≤ at_ + n ∧ 0 ≤ M ∧ M ≤ room ∧ Below w.heap.size w wr ∧ Below w1.heap.size w1 wr) (fun _ _ i _ => n' - (intOf i).toNat)
  case atStart => exact ⟨0, 0, at_, Nat.zero_le _, rfl, rfl, rfl, rfl, Ha.out, by omega, by omega, by omega, hr0, hb, Below.refl _ _⟩
  case round =>
    obtain ⟨k, M, P, hk, rfl, rfl, rfl, hf, hA, hp0, hp1, hm0, hm1, hb1, hb2⟩ := hrel
    have Hf := Lib.hid hf
    have HA := Lib.hid hA
    clear hf hA
    by_cases hlt : k < n'
    · obtain ⟨g, o, p, rfl, hp, hg, h1, h2⟩ := (HP.out.keep (KeepT.of_below hb2)).at_ hlt
      obtain ⟨b0, b1⟩ := Hok2.out p (List.mem_of_getElem? hp)
      have b2 := He.out p (List.mem_of_getElem? hp)
      have hd := drop_cons hp
      have b3 : P ≤ p.at_ := by have := HA.out; rw [hd] at this; exact this.1
      have Hd := Lib.hid hd
      clear hp hd
      by_cases hgt : room < M + (p.at_ - P)
      · go_wp2_with fail
        go_ret2
        have := Hf.out
        rw [Hd.out, fitsGo_stop hgt] at this
        rw [← this]
        exact ⟨rfl, hb1.alloc hb1.size _⟩
      · go_wp2_with fail
        go_roundw
        case rel =>
          refine ⟨k + 1, _, _, by omega, by go_num, rfl, rfl, ?_, ?_, by omega, by omega, by omega, by omega, hb1.alloc hb1.size _, hb2.alloc hb2.size _⟩
          · have := Hf.out
            rw [Hd.out, fitsGo_next hgt] at this
            exact this
          · have := HA.out
            rw [Hd.out] at this
            exact this.2
        case measure => simp [intOf]; omega
    · obtain rfl : k = n' := by omega
      have hd : qs.drop k = [] := List.drop_of_length_le (by rw [Hlen.out]; exact Nat.le_refl _)
      have Hd := Lib.hid hd
      clear hd
      go_wp2_with fail
      go_ret2
      have := Hf.out
      rw [Hd.out, fitsGo_nil] at this
      rw [← this]
      exact ⟨rfl, hb1⟩
end Go.Proofs.Ytccfimgpbmkpiaa
