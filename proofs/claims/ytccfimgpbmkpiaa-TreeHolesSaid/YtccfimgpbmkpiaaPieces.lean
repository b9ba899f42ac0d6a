/- tree.clone and (*tree.FS).Pieces: pieces anew. Conditions: pieces that may be, few. -/
import Derived.Test.YtccfimgpbmkpiaaCells
import Derived.Test.YtccfimgpbmkpiaaGrow
import Derived.Deep.RegionHeld3
import Derived.Deep.AppendLies
namespace Go.Proofs.Ytccfimgpbmkpiaa
set_option linter.unusedVariables false
set_option linter.unusedSimpArgs false
set_option maxRecDepth 100000
open Go.RowKit Go.MapKept

theorem sep_step_new {l : List (Int × List UInt8)} (h : Sep l) {k : Nat} {p : Int × List UInt8} (hp : l[k]? = some p) : mergeStep (l.take k) p = l.take k ++ [p] := by
  rcases nil_or_snoc (l.take k) with e | ⟨i, q, e⟩
  · rw [e]; rfl
  · rw [e]
    unfold mergeStep
    rw [show (i ++ [q]).getLast? = some q by simp]
    dsimp only
    rw [if_neg]
    obtain ⟨hk, rfl⟩ := List.getElem?_eq_some_iff.1 hp
    have h2 : (l.take k ++ l.drop k).Pairwise fun p q => p.1 + (p.2.length : Int) < q.1 := by rw [List.take_append_drop]; exact h.apart
    rw [List.pairwise_append] at h2
    have := h2.2.2 q (by rw [e]; simp) l[k] (by rw [List.drop_eq_getElem_cons hk]; exact List.mem_cons_self)
    omega
theorem sep_take {l : List (Int × List UInt8)} (h : Sep l) : ∀ k, mergeV (l.take k) = l.take k
  | 0 => by simp [mergeV]
  | k + 1 => by
    cases hp : l[k]? with
    | none =>
      have hk : l.length ≤ k := List.getElem?_eq_none_iff.1 hp
      have := sep_take h k
      rw [List.take_of_length_le hk] at this
      rw [List.take_of_length_le (by omega), this]
    | some p => rw [mergeV_snoc hp, sep_take h k, sep_step_new h hp, List.take_add_one, hp]; rfl

def ClonedPost (w : World) (l : List (Int × List UInt8)) (e : Ending) (w' : World) : Prop :=
  ∃ A c ps, e = .returned (.slice A ps.length c) ∧ PcsAt w' A ps.length c ps ∧ cont ps = l ∧ (∀ q ∈ ps, 0 < q.len) ∧ Below w.heap.size w w'

set_option maxHeartbeats 1000000 in
theorem pclone_any {w : World} {A : Option Addr} {m c : Nat} {ps : List CP} (h : PcsAt w A m c ps) (hm : m ≤ 524288) (hok : PcOk ps) (hsep : Sep (cont ps)) :
    Calls Try.prog 37 #[.slice A m c] w (ClonedPost w (cont ps)) := by
  obtain ⟨i0, hi, hz0, hz1, hz2⟩ := info_parts infoPiece
  have H := Lib.hid h
  have Hok := Lib.hid hok
  have Hsep := Lib.hid hsep
  clear h hok hsep
  go_enter Try.func37, Try.ntmps37
  go_wp2_with fail
  go_loopw [3, 8] (fun v i wr => ∃ (k : Nat) (outp : List CP), k ≤ m ∧ i = .int .i64 k ∧ OutRel w.heap.size wr v outp (cont ps) k ∧ Below w.heap.size w wr) (fun _ i _ => m - (intOf i).toNat)
  case atStart => exact ⟨0, [], Nat.zero_le _, rfl, ⟨World.ownsRow_nil w _ _ _, (fun q hq => absurd hq (by simp)), rfl, Nat.le_refl _⟩, Below.refl _ _⟩
  case round =>
    obtain ⟨k, outp, hk, rfl, HR, hb⟩ := hrel
    have hown := HR.own
    have HR := Lib.hid HR
    by_cases hlt : k < m
    · obtain ⟨g, o, p, rfl, hp, hg, h1, h2⟩ := (H.out.keep (KeepT.of_below hb)).at_ hlt
      have hp2 := (Hok.out p (List.mem_of_getElem? hp)).1
      have hp3 := (Hok.out p (List.mem_of_getElem? hp)).2
      have hpb := (H.out.keep (KeepT.of_below hb)).2.2.2 p (List.mem_of_getElem? hp)
      have hp0 : 0 < p.len := by
        have h1 := Hsep.out.some_ (p.at_, p.bs) (List.mem_map.2 ⟨p, List.mem_of_getElem? hp, rfl⟩)
        have h2 := hpb.1
        have h3 : 0 < p.bs.length := List.length_pos_iff.2 h1
        omega
      have hp1 : p.len ≤ 2199023255552 := by omega
      have HPB := Lib.hid (hpb.r.keep (KeepT.of_below ((Below.refl _ wr).alloc (Nat.le_refl _) (.cells #[.int .i64 p.at_, .slice p.ad p.len p.cap] 54))))
      obtain ⟨A5, c5, rfl⟩ := ownsRow_form hown
      have Hown := Lib.hid (hown.alloc (.cells #[.int .i64 p.at_, .slice p.ad p.len p.cap] 54))
      have Hp := Lib.hid hp
      have hbs := hb.size
      have hlen := HR.out.len
      have hne5 : some wr.heap.size ≠ (Value.slice A5 outp.length c5).ownBlock := fun e => absurd (hown.lt _ e.symm).2 (Nat.lt_irrefl _)
      clear hp hpb hown
      go_wp2_with fail
      go_region_held3 (fun w' => w'.cell? ⟨wr.heap.size, 0, none⟩ = some (.int .i64 p.at_) ∧ w'.cell? ⟨wr.heap.size, 1, none⟩ = some (.slice p.ad p.len p.cap)) (first | exact kb2 | exact kb1 | go_keep)
        (first
          | (go_at_call 55; refine (clone_any (bs := p.bs) ?_ hp0 hp1).mono ?_; exact HPB.out; rintro e w6 ⟨A6, c6, rfl, hBy, hbl⟩; have kb1 := box_kept hbl)
          | (refine step_append_lies _ (by rfl) _ _ _ (by rfl) w.heap.size 54 i0 (.agg #[.int .i64 0, .slice none 0 0]) 2 32 Try.underlying51 hi hz0 hz1 hz2 rfl (by omega) _ outp.length (pcells outp) (by rfl) ((ownsRow_below (w := (wr.alloc (.cells #[.int .i64 p.at_, .slice p.ad p.len p.cap] 54)).drewN _) Hown.out hbl).alloc _) ⟨w6.heap.size, 0, none⟩ 1 1 [.int .i64 p.at_, .slice A6 p.len c6] (by rfl) (by rfl) (World.news_of_block (cs := #[.int .i64 p.at_, .slice A6 p.len c6]) (t := 54) (fr := (0, 0)) (heap_alloc_new w6 _)) (by simp [Value.oneCell']) (by omega) (by unfold maxLen; omega) (by omega) (by have := hbl.size; simp [World.drewN] at this; simp; omega) (w6.heap.size + 1) (by simp) ?_; intro gg cap w7 hown7 hgrow7 hat7 hlt7; have kb2 := box_far hgrow7 hne5 kb1))
      have hbw : Below wr.heap.size wr w6 := (belowN ((Below.refl _ wr).alloc (Nat.le_refl _) (.cells #[.int .i64 p.at_, .slice p.ad p.len p.cap] 54)) _).trans (hbl.mono (by show wr.heap.size ≤ (wr.alloc _).heap.size; simp))
      have hb7 : Below w.heap.size w w7 := by
        have q1 := hb.trans (hbw.mono hbs)
        exact (q1.alloc q1.size (.cells #[.int .i64 p.at_, .slice A6 p.len c6] 54)).grown hgrow7 (by simp; have := q1.size; omega) (fun y hy => (Hown.out.lt y hy).1)
      have hcon : cont outp = (cont ps).take k := HR.out.con.trans (sep_take Hsep.out k)
      have HR7 := Lib.hid (HR.out.app (cont_get Hp.out) (by rw [hcon]; exact sep_step_new Hsep.out (cont_get Hp.out)) hp0 hp2 hp3 hbw hBy hgrow7 (by simpa using hown7))
      clear hown7 hgrow7 hat7 hlt7 kb1 kb2 hBy hbl hbw hcon
      go_wp2_with fail
      go_roundw
      case rel => exact ⟨k + 1, _, by omega, by go_num, HR7.out, hb7⟩
      case measure => simp [intOf]; omega
    · obtain rfl : k = m := by omega
      have e : (cont ps).take k = cont ps := List.take_of_length_le (by simp [cont, H.out.1])
      clear hown
      go_wp2_with fail
      go_ret
      obtain ⟨A5, c5, rfl⟩ := ownsRow_form HR.out.own
      have hc := HR.out.con
      rw [sep_take Hsep.out k, e] at hc
      exact ⟨A5, c5, outp, rfl, (PcsAt.of_own HR.out.own rfl fun q hq => (HR.out.bytes q hq).1).1, hc, fun q hq => (HR.out.bytes q hq).2.1, hb⟩

/-- Pieces. -/
theorem pieces_none {w : World} {A : FSA} (h : FSAt w A) {ino : Int} (he : A.fileErr ino ≠ 0) :
    Calls Try.prog 21 #[A.fp, .int .i64 ino] w fun e w' => e = .returned (.slice none 0 0) ∧ w = w' := by
  have cF := file_bad h he
  have hz' : (A.fileErr ino != 0) = true := by simp [he]
  unfold FSA.fp at *
  generalize A.fileErr ino = x at *
  have He := Lib.hid he
  clear h he
  go_enter Try.func21, Try.ntmps21
  go_wp2_with (go_at_call 32; refine cF.mono ?_; rintro e w' ⟨rfl, rfl⟩)
  go_ret
  exact ⟨rfl, rfl⟩
theorem pieces_ok {w : World} {A : FSA} (h : FSAt w A) {ino : Int} {r : NodeR} (hr : A.node? ino = some r) (hk : r.n.kind = 1) (hm : r.plen ≤ 524288) (hok : PcOk r.pieces) (hsep : Sep (cont r.pieces)) :
    Calls Try.prog 21 #[A.fp, .int .i64 ino] w (ClonedPost w (cont r.pieces)) := by
  have cF := file_ok h hr hk
  have hn := (h.at_ hr).c
  have cC := pclone_any (h.at_ hr).pcs hm hok hsep
  unfold FSA.fp at *
  clear h hr hk hok hsep
  go_enter Try.func21, Try.ntmps21
  go_wp2_with (first | (go_at_call 32; refine cF.mono ?_; rintro e w' ⟨rfl, rfl⟩) | fail)
  refine cC.mono ?_
  rintro e w1 ⟨A1, c1, ps, rfl, h1, h2, h3, h4⟩
  have HH := Lib.hid (And.intro h1 (And.intro h2 (And.intro h3 h4)))
  clear h1 h2 h3 h4 cC
  go_wp2_with fail
  go_ret
  exact ⟨A1, c1, ps, rfl, HH.out⟩
end Go.Proofs.Ytccfimgpbmkpiaa
