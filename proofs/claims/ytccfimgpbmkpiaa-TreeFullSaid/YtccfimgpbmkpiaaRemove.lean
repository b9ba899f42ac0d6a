/- (*tree.FS).Remove where it goes well. Conditions: the clock is at least 0 and below 2^62, the links are at least 1 and below 2^62, the bytes of the node's pieces and the bytes in use are below 2^62. -/
import Derived.Test.YtccfimgpbmkpiaaLink
namespace Go.Proofs.Ytccfimgpbmkpiaa
set_option linter.unusedVariables false
set_option linter.unusedSimpArgs false
set_option maxRecDepth 100000
open Go.RowKit Go.MapKept

/-- A node has gone. -/
theorem FSAt.del {w w' : World} {A : FSA} (h : FSAt w A) {i : Int} (hm : MapOf eInt ePtr w' A.mb ((A.nodes.map fun p => (p.1, p.2.blk)).filter fun p => !decide (p.1 = i))) (ho : Only w w' A.mb) : FSAt w' (A.delNode i) := by
  have hk : KeepT isData w w' := ho.keepT h.map.not_cells
  have hsub : (A.nodes.filter fun p => !decide (p.1 = i)).Sublist A.nodes := List.filter_sublist
  refine ⟨ho.blk h.fs (fun e => h.map.ne_blk h.fs e.symm), ?_, ?_, ?_, ?_⟩
  · rw [List.filter_map] at hm
    exact hm
  · intro p hp
    have hp1 : p ∈ A.nodes := hsub.subset hp
    have hp' := h.node p hp1
    refine hp'.keep (ho.far _ (fun e => h.map.ne_blk hp'.blk e.symm)) (fun b hb => ho.far _ (fun e => ?_)) hk
    exact (List.nodup_cons.1 h.nms).1 (e ▸ List.mem_filterMap.2 ⟨p, hp1, hb⟩)
  · exact (hsub.map (·.2.blk)).nodup h.blks
  · exact ((hsub.filterMap (·.2.nm)).cons_cons A.mb).nodup h.nms

def FSA.cut (A : FSA) (x : NodeR) (nb : Nat) (part : ByteArray) : FSA :=
  (A.updN nb fun l => l.filter fun p => !decide (p.1 = part)).updB x.blk (setLinks (x.n.links - 1))
/-- The tree behind Remove. -/
def FSA.removed (A : FSA) (d x : NodeR) (nb : Nat) (part : ByteArray) (ino : Int) : FSA :=
  (if x.n.links = 1 then FSA.delNode { A.cut x nb part with used := A.used - sumLen x.pieces } ino else A.cut x nb part).tick [d.blk] [x.blk]
def RemovedPost (A : FSA) (d x : NodeR) (part : ByteArray) (ino : Int) (w : World) (e : Ending) (w' : World) : Prop :=
  e = .returned (.int .i64 0) ∧ ∃ nb, d.nm = some nb ∧ FSAt w' (A.removed d x nb part ino) ∧ Frm A.owns w w'

theorem used_kept {w w1 : World} {A : FSA} (h : FSAt w A) {N : Nat} (hb : Below (w.drewN N).heap.size (w.drewN N) w1) :
    w1.cell? ⟨A.fb, 3, none⟩ = some (.int .i64 A.used) ∧ w1.frozen? ⟨A.fb, 3, none⟩ = false := by
  have h1 : FSAt w1 A := FSAt.below (FSAt.drewN h N) hb
  exact ⟨h1.c 3, h1.f 3⟩

set_option maxHeartbeats 2000000 in
theorem remove_ok {w : World} {A : FSA} (h : FSAt w A) {dir ino : Int} {part : ByteArray} {d x : NodeR} (hd : A.node? dir = some d) (hk : d.n.kind = 6) (ho : nameOk part = true) (hp : look d.names part = some ino)
    (hx : A.node? ino = some x) (hxn : x.nm = none) (hl0 : 1 ≤ x.n.links) (hl1 : x.n.links < 4611686018427387904) (hck0 : 0 ≤ A.clock) (hck1 : A.clock < 4611686018427387904)
    (hpl : x.plen ≤ 1048576) (hsm : sumLen x.pieces < 4611686018427387904) (hu0 : 0 ≤ A.used) (hu1 : A.used < 4611686018427387904) :
    Calls Try.prog 18 #[A.fp, .int .i64 dir, .string part] w (RemovedPost A d x part ino w) := by
  have hc := h.c
  have hlx := h.look_some hx
  have hxc := (h.at_ hx).c
  have hdc := (h.at_ hd).c
  have cP := place_ok h hd hk ho
  obtain ⟨nb, hnb⟩ := (h.at_ hd).nm_of hk
  rw [hnb] at hdc
  rw [hxn] at hxc
  have hln := (h.at_ hd).lookup hnb part true
  simp only [if_true, hp, Option.getD_some, Option.isSome_some] at hln
  have hne : x.blk ≠ A.fb := (h.at_ hx).blk.ne_ h.fs (by decide)
  have H := Lib.hid h
  have Hd := Lib.hid hd
  have Hx := Lib.hid hx
  have Hnb := Lib.hid hnb
  have Hxn := Lib.hid hxn
  have hw : IntKind.i64.wrap (x.n.links - 1) = x.n.links - 1 := IntWalk.i64_in _ (by omega)
  clear h hd hx hnb hxn hk ho hp
  unfold FSA.fp at *
  have hownb : A.owns nb := .inr (.inr (.inr (List.mem_filterMap.2 ⟨_, H.out.mem Hd.out, Hnb.out⟩)))
  have hownd : A.owns d.blk := .inr (.inr (.inl (List.mem_map.2 ⟨_, H.out.mem Hd.out, rfl⟩)))
  have hownx : A.owns x.blk := .inr (.inr (.inl (List.mem_map.2 ⟨_, H.out.mem Hx.out, rfl⟩)))
  have hownm : A.owns A.mb := .inr (.inl rfl)
  by_cases hl : x.n.links = 1
  · have hl' : (x.n.links - 1 == 0) = true := by simp; omega
    have Hl := Lib.hid hl
    clear hl
    have hw5 : IntKind.i64.wrap (A.used - (sumLen x.pieces : Int)) = A.used - (sumLen x.pieces : Int) := IntWalk.i64_in _ (by omega)
    go_enter Try.func18, Try.ntmps18
    go_wp2_with (first | (go_at_call 26; refine cP.mono ?_; rintro e w' ⟨rfl, rfl⟩))
    refine upon_del ((H.out.at_ Hd.out).nm nb Hnb.out) _ Try.underlying70 Try.underlying9 eStr_key eStr_inj part ?_
    intro w2 hm2 ho2
    have h2 := H.out.names Hd.out Hnb.out (g := fun l => l.filter fun p => !decide (p.1 = part)) hm2 ho2
    have hx2 : (A.updN nb fun l => l.filter fun p => !decide (p.1 = part)).node? ino = some x := by
      rw [updN_node, Hx.out, Option.map_some, Hxn.out, if_neg (by simp)]
    obtain ⟨d2, hd2, gd1, _⟩ := updN_ex Hd.out nb (fun l => l.filter fun p => !decide (p.1 = part))
    have id2 : IsNode w2 d.blk := by have := IsNode.of (h2.at_ hd2); rwa [gd1] at this
    have hxc2 := (h2.at_ hx2).c
    have hxf2 := (h2.at_ hx2).f
    have hxl2 := (h2.at_ hx2).blk.lt
    have H2 := Lib.hid h2
    have Hx2 := Lib.hid hx2
    have Id2 := Lib.hid id2
    have F2 := Lib.hid (ho2.frm.mono (B' := A.owns) (fun y _ e => e ▸ hownb))
    have hc2 := h2.c
    have hf2 := h2.f
    dsimp only [FSA.updN] at hc2 hf2
    clear hc hlx hxc hdc cP hln hm2 ho2 h2 hx2 hd2 gd1 id2
    go_wp2_with fail
    have h3 := FSAt.store' H2.out (H2.out.at_ Hx2.out).blk (turns_links (x.n.links - 1)) (fun _ => ⟨rfl, rfl, rfl, rfl⟩)
    have hx3 : (A.cut x nb part).node? ino = some (setLinks (x.n.links - 1) x) := by unfold FSA.cut; rw [updB_node, Hx2.out, Option.map_some, if_pos rfl]
    have id3 : IsNode (w2.setCell ⟨x.blk, 9, none⟩ (.int .i64 (x.n.links - 1))) d.blk := Id2.out.setCell _ _ _
    have F3 := F2.out.setCell (p := ⟨x.blk, 9, none⟩) (fun _ => hownx) (.int .i64 (x.n.links - 1))
    generalize w2.setCell ⟨x.blk, 9, none⟩ (.int .i64 (x.n.links - 1)) = w3 at *
    have h3' : FSAt w3 (A.cut x nb part) := h3
    have hc3 := h3'.c
    have hf3 := h3'.f
    have hxc3 := (h3'.at_ hx3).c
    have ix3 : IsNode w3 x.blk := show IsNode w3 (setLinks (x.n.links - 1) x).blk from IsNode.of (h3'.at_ hx3)
    dsimp only [FSA.cut, FSA.updB, FSA.updN, setLinks] at hc3 hf3 hxc3
    have cB := fun q => bytes_any (w := w3.drewN q) ((h3'.at_ hx3).pcs.keep (fun _ _ _ _ _ h => h)) hpl hsm
    dsimp only [setLinks] at cB
    have H3 := Lib.hid h3'
    have Hx3 := Lib.hid hx3
    have Id3 := Lib.hid id3
    have Ix3 := Lib.hid ix3
    have F3' := Lib.hid F3
    clear h3 h3' hx3 id3 ix3 F3 hxc2 hxf2 hc2 hf2
    go_region_with (go_at_call 35; refine (cB _).mono ?_; rintro e w4 ⟨rfl, hb4⟩; have kc := (used_kept H3.out hb4).1; have kf := (used_kept H3.out hb4).2; dsimp only [FSA.cut, FSA.updB, FSA.updN] at kc kf)
    all_goals
      have h4 : FSAt w4 (A.cut x nb part) := FSAt.below (FSAt.drewN H3.out _) hb4
      obtain ⟨d2, hd2, gd2, _⟩ := updN_ex Hd.out nb (fun l => l.filter fun p => !decide (p.1 = part))
      obtain ⟨d3, hd3, gd3, _⟩ := updB_ex hd2 x.blk (turns_links (x.n.links - 1))
      have h5 : FSAt (w4.setCell ⟨A.fb, 3, none⟩ (.int .i64 (A.used - (sumLen x.pieces : Int)))) { A.cut x nb part with used := A.used - (sumLen x.pieces : Int) } := FSAt.counter h4 rfl rfl rfl rfl
      have F5 := (F3'.out.trans' (Frm.of_below (belowN (Below.refl _ w3) _ |>.trans hb4) _)).setCell (p := ⟨A.fb, 3, none⟩) (fun _ => .inl rfl) (.int .i64 (A.used - (sumLen x.pieces : Int)))
      generalize w4.setCell ⟨A.fb, 3, none⟩ (.int .i64 (A.used - (sumLen x.pieces : Int))) = w5 at *
      have hd5 : ({ A.cut x nb part with used := A.used - (sumLen x.pieces : Int) } : FSA).node? dir = some d3 := hd3
      have hx5 : ({ A.cut x nb part with used := A.used - (sumLen x.pieces : Int) } : FSA).node? ino = some (setLinks (x.n.links - 1) x) := Hx3.out
      have hc5 := h5.c
      dsimp only [FSA.cut, FSA.updB, FSA.updN] at hc5
      have H5 := Lib.hid h5
      have Hd5 := Lib.hid hd5
      have Hx5 := Lib.hid hx5
      have F5' := Lib.hid F5
      have Gd := Lib.hid (gd3.trans gd2)
      clear h4 hd2 gd2 hd3 gd3 h5 F5 hd5 hx5 cB hc3 hf3 hxc3 kc kf hb4
      go_wp2_with fail
      refine upon_del H5.out.map _ Try.underlying73 Try.underlying3 eInt_key eInt_inj ino ?_
      intro w6 hm6 ho6
      have h6 := FSAt.del H5.out hm6 ho6
      have id6 : IsNode w6 d.blk := by
        have hB := (H5.out.at_ Hd5.out).blk
        rw [Gd.out] at hB
        exact ⟨_, ho6.blk hB (fun e => H5.out.map.ne_blk hB e.symm), rfl⟩
      have ix6 : IsNode w6 x.blk := by
        have hB : Blk w5 x.blk 72 (setLinks (x.n.links - 1) x).cells := (H5.out.at_ Hx5.out).blk
        exact ⟨_, ho6.blk hB (fun e => H5.out.map.ne_blk hB e.symm), rfl⟩
      have hfb6 : A.fb < w6.heap.size := h6.fs.lt
      have F6 := F5'.out.trans ho6.frm (fun y _ e => e ▸ hownm)
      have H6 := Lib.hid h6
      have Id6 := Lib.hid id6
      have Ix6 := Lib.hid ix6
      have F6' := Lib.hid F6
      clear hm6 ho6 h6 id6 ix6 F6 hc5
      go_wp2_with fail
      refine (tick_any ((H6.out.alloc _).alloc _) hck0 hck1 (some ⟨w6.heap.size, 0, none⟩) (some ⟨w6.heap.size + 1, 0, none⟩) 1 1 [d.blk] [x.blk] ((ptrs1 w6 d.blk).alloc _) (ptrs2 w6 d.blk x.blk) (by simp) (by simp) ?_).mono ?_
      · intro y hy
        rcases hy with hy | hy
        · obtain rfl : y = d.blk := by simpa using hy
          exact (Id6.out.alloc _).alloc _
        · obtain rfl : y = x.blk := by simpa using hy
          exact (Ix6.out.alloc _).alloc _
      rintro e w7 ⟨rfl, h7, hf7⟩
      have H7 := Lib.hid h7
      have G2 := Lib.hid (((F6'.out.alloc (.cells #[.pointer (some ⟨d.blk, 0, none⟩)] 69)).alloc (.cells #[.pointer (some ⟨x.blk, 0, none⟩)] 69)).trans hf7 (fun y _ hb => by
        rcases hb with rfl | hb | hb
        · exact .inl rfl
        · obtain rfl : y = d.blk := by simpa using hb
          exact hownd
        · obtain rfl : y = x.blk := by simpa using hb
          exact hownx))
      clear hfb6 h7 hf7
      go_wp2
      go_ret
      refine ⟨rfl, nb, Hnb.out, ?_, G2.out⟩
      unfold FSA.removed
      rw [if_pos Hl.out]
      exact H7.out
  · have hl' : (x.n.links - 1 == 0) = false := by simp; omega
    have Hl := Lib.hid hl
    clear hl
    go_enter Try.func18, Try.ntmps18
    go_wp2_with (first | (go_at_call 26; refine cP.mono ?_; rintro e w' ⟨rfl, rfl⟩))
    refine upon_del ((H.out.at_ Hd.out).nm nb Hnb.out) _ Try.underlying70 Try.underlying9 eStr_key eStr_inj part ?_
    intro w2 hm2 ho2
    have h2 := H.out.names Hd.out Hnb.out (g := fun l => l.filter fun p => !decide (p.1 = part)) hm2 ho2
    have hx2 : (A.updN nb fun l => l.filter fun p => !decide (p.1 = part)).node? ino = some x := by
      rw [updN_node, Hx.out, Option.map_some, Hxn.out, if_neg (by simp)]
    obtain ⟨d2, hd2, gd1, _⟩ := updN_ex Hd.out nb (fun l => l.filter fun p => !decide (p.1 = part))
    have id2 : IsNode w2 d.blk := by have := IsNode.of (h2.at_ hd2); rwa [gd1] at this
    have hxc2 := (h2.at_ hx2).c
    have hxf2 := (h2.at_ hx2).f
    have hxl2 := (h2.at_ hx2).blk.lt
    have H2 := Lib.hid h2
    have Hx2 := Lib.hid hx2
    have Id2 := Lib.hid id2
    have F2 := Lib.hid (ho2.frm.mono (B' := A.owns) (fun y _ e => e ▸ hownb))
    have hc2 := h2.c
    have hf2 := h2.f
    dsimp only [FSA.updN] at hc2 hf2
    clear hc hlx hxc hdc cP hln hm2 ho2 h2 hx2 hd2 gd1 id2
    go_wp2_with fail
    have h3 := FSAt.store' H2.out (H2.out.at_ Hx2.out).blk (turns_links (x.n.links - 1)) (fun _ => ⟨rfl, rfl, rfl, rfl⟩)
    have hx3 : (A.cut x nb part).node? ino = some (setLinks (x.n.links - 1) x) := by unfold FSA.cut; rw [updB_node, Hx2.out, Option.map_some, if_pos rfl]
    have id3 : IsNode (w2.setCell ⟨x.blk, 9, none⟩ (.int .i64 (x.n.links - 1))) d.blk := Id2.out.setCell _ _ _
    have F3 := F2.out.setCell (p := ⟨x.blk, 9, none⟩) (fun _ => hownx) (.int .i64 (x.n.links - 1))
    have hsz : w2.heap.size = (w2.setCell ⟨x.blk, 9, none⟩ (.int .i64 (x.n.links - 1))).heap.size := by simp
    have ix3 : IsNode (w2.setCell ⟨x.blk, 9, none⟩ (.int .i64 (x.n.links - 1))) x.blk := (IsNode.of (H2.out.at_ Hx2.out)).setCell _ _ _
    refine (tick_any ((h3.alloc _).alloc _) hck0 hck1 (some ⟨w2.heap.size, 0, none⟩) (some ⟨w2.heap.size + 1, 0, none⟩) 1 1 [d.blk] [x.blk] ((ptrs1s hsz d.blk).alloc _) (ptrs2s hsz d.blk x.blk) (by simp) (by simp) ?_).mono ?_
    · intro y hy
      rcases hy with hy | hy
      · obtain rfl : y = d.blk := by simpa using hy
        exact (id3.alloc _).alloc _
      · obtain rfl : y = x.blk := by simpa using hy
        exact (ix3.alloc _).alloc _
    rintro e w7 ⟨rfl, h7, hf7⟩
    have H7 := Lib.hid h7
    have G2 := Lib.hid (((F3.alloc (.cells #[.pointer (some ⟨d.blk, 0, none⟩)] 69)).alloc (.cells #[.pointer (some ⟨x.blk, 0, none⟩)] 69)).trans hf7 (fun y _ hb => by
      rcases hb with rfl | hb | hb
      · exact .inl rfl
      · obtain rfl : y = d.blk := by simpa using hb
        exact hownd
      · obtain rfl : y = x.blk := by simpa using hb
        exact hownx))
    clear hsz h3 ix3 id3 hxc2 hxf2 hc2 hf2 h7 hf7
    go_wp2
    go_ret
    refine ⟨rfl, nb, Hnb.out, ?_, G2.out⟩
    unfold FSA.removed
    rw [if_neg Hl.out]
    exact H7.out
end Go.Proofs.Ytccfimgpbmkpiaa
