/- (*tree.FS).Link where it goes well. Conditions: the clock and the links are at least 0 and below 2^62. -/
import Derived.Test.YtccfimgpbmkpiaaState
namespace Go.Proofs.Ytccfimgpbmkpiaa
set_option linter.unusedVariables false
set_option linter.unusedSimpArgs false
set_option maxRecDepth 100000
open Go.RowKit Go.MapKept

/-- The tree behind Link. -/
def FSA.linked (A : FSA) (d x : NodeR) (nb : Nat) (part : ByteArray) (ino : Int) : FSA :=
  ((A.updN nb fun l => l ++ [(part, ino)]).updB x.blk (setLinks (x.n.links + 1))).tick [d.blk] [x.blk]
def LinkedPost (A : FSA) (d x : NodeR) (part : ByteArray) (ino : Int) (w : World) (e : Ending) (w' : World) : Prop :=
  e = .returned (.int .i64 0) ∧ ∃ nb, d.nm = some nb ∧ FSAt w' (A.linked d x nb part ino) ∧ Frm A.owns w w'

theorem ptrs1s {w : World} {n : Nat} (hn : n = w.heap.size) (b : Nat) : PtrsAt (w.alloc (.cells #[.pointer (some ⟨b, 0, none⟩)] 69)) (some ⟨n, 0, none⟩) 1 [b] := by
  subst hn; exact ptrs1 w b
theorem ptrs2s {w : World} {n : Nat} (hn : n = w.heap.size) (a b : Nat) : PtrsAt ((w.alloc (.cells #[.pointer (some ⟨a, 0, none⟩)] 69)).alloc (.cells #[.pointer (some ⟨b, 0, none⟩)] 69)) (some ⟨n + 1, 0, none⟩) 1 [b] := by
  subst hn; exact ptrs2 w a b

set_option maxHeartbeats 2000000 in
theorem link_ok {w : World} {A : FSA} (h : FSAt w A) {dir ino : Int} {part : ByteArray} {d x : NodeR} (hd : A.node? dir = some d) (hk : d.n.kind = 6) (ho : nameOk part = true) (hnew : look d.names part = none)
    (hx : A.node? ino = some x) (hxk : x.n.kind ≠ 6) (hl0 : 0 ≤ x.n.links) (hl1 : x.n.links < 4611686018427387904) (hck0 : 0 ≤ A.clock) (hck1 : A.clock < 4611686018427387904) :
    Calls Try.prog 16 #[A.fp, .int .i64 dir, .string part, .int .i64 ino] w (LinkedPost A d x part ino w) := by
  have hc := h.c
  have hlx := h.look_some hx
  have hld := h.look_some hd
  have hxc := (h.at_ hx).c
  have hdc := (h.at_ hd).c
  have cP := place_ok h hd hk ho
  obtain ⟨nb, hnb⟩ := (h.at_ hd).nm_of hk
  rw [hnb] at hdc
  have hln := (h.at_ hd).lookup hnb part true
  simp only [if_true, hnew, Option.getD_none, Option.isSome_none] at hln
  have kx : (x.n.kind == 6) = false := beq_eq_false_iff_ne.2 hxk
  have hxn : x.nm = none := by
    cases e : x.nm with
    | none => rfl
    | some b => exact absurd ((h.at_ hx).dir.1 (by rw [e]; rfl)) hxk
  have hne : x.blk ≠ A.fb := (h.at_ hx).blk.ne_ h.fs (by decide)
  have H := Lib.hid h
  have Hd := Lib.hid hd
  have Hx := Lib.hid hx
  have Hnb := Lib.hid hnb
  have Hnew := Lib.hid hnew
  have Hxn := Lib.hid hxn
  clear h hd hx hnb hnew hxn hxk hk ho
  unfold FSA.fp at *
  go_enter Try.func16, Try.ntmps16
  go_wp2_with (first | (go_at_call 26; refine cP.mono ?_; rintro e w' ⟨rfl, rfl⟩))
  refine upon_push ((H.out.at_ Hd.out).nm nb Hnb.out) Try.underlying70 Try.underlying9 eStr_key eStr_inj part ino (look_none.1 Hnew.out) ?_
  intro w2 hm2 ho2
  have h2 := H.out.names Hd.out Hnb.out (g := fun l => l ++ [(part, ino)]) hm2 ho2
  have hx2 : (A.updN nb fun l => l ++ [(part, ino)]).node? ino = some x := by
    rw [updN_node, Hx.out, Option.map_some, Hxn.out, if_neg (by simp)]
  obtain ⟨d2, hd2, gd1, _⟩ := updN_ex Hd.out nb (fun l => l ++ [(part, ino)])
  have id2 : IsNode w2 d.blk := by have := IsNode.of (h2.at_ hd2); rwa [gd1] at this
  have hc2 := h2.c
  dsimp only [FSA.updN] at hc2
  have hxc2 := (h2.at_ hx2).c
  have hxf2 := (h2.at_ hx2).f
  have hxl2 := (h2.at_ hx2).blk.lt
  have H2 := Lib.hid h2
  have Hx2 := Lib.hid hx2
  have Id2 := Lib.hid id2
  have F2 := Lib.hid ho2.frm
  have hw : IntKind.i64.wrap (x.n.links + 1) = x.n.links + 1 := IntWalk.i64_in _ (by omega)
  clear hc hlx hld hxc hdc cP hln hm2 ho2 h2 hx2 hd2 gd1 id2
  go_wp2_with fail
  have h3 := FSAt.store' H2.out (H2.out.at_ Hx2.out).blk (turns_links (x.n.links + 1)) (fun _ => ⟨rfl, rfl, rfl, rfl⟩)
  have hsz : w2.heap.size = (w2.setCell ⟨x.blk, 9, none⟩ (.int .i64 (x.n.links + 1))).heap.size := by simp
  have ix3 : IsNode (w2.setCell ⟨x.blk, 9, none⟩ (.int .i64 (x.n.links + 1))) x.blk := (IsNode.of (H2.out.at_ Hx2.out)).setCell _ _ _
  have id3 : IsNode (w2.setCell ⟨x.blk, 9, none⟩ (.int .i64 (x.n.links + 1))) d.blk := Id2.out.setCell _ _ _
  refine (tick_any ((h3.alloc _).alloc _) hck0 hck1 (some ⟨w2.heap.size, 0, none⟩) (some ⟨w2.heap.size + 1, 0, none⟩) 1 1 [d.blk] [x.blk] ((ptrs1s hsz d.blk).alloc _) (ptrs2s hsz d.blk x.blk) (by simp) (by simp) ?_).mono ?_
  · intro y hy
    rcases hy with hy | hy
    · obtain rfl : y = d.blk := by simpa using hy
      exact (id3.alloc _).alloc _
    · obtain rfl : y = x.blk := by simpa using hy
      exact (ix3.alloc _).alloc _
  rintro e w5 ⟨rfl, h5, hf5⟩
  have H5 := Lib.hid h5
  have Hf5 := Lib.hid hf5
  clear hsz h3 ix3 id3 h5 hf5 hc2 hxc2 hxf2
  go_wp2
  go_ret
  have hownb : A.owns nb := .inr (.inr (.inr (List.mem_filterMap.2 ⟨_, H.out.mem Hd.out, Hnb.out⟩)))
  have hownd : A.owns d.blk := .inr (.inr (.inl (List.mem_map.2 ⟨_, H.out.mem Hd.out, rfl⟩)))
  have hownx : A.owns x.blk := .inr (.inr (.inl (List.mem_map.2 ⟨_, H.out.mem Hx.out, rfl⟩)))
  refine ⟨rfl, nb, Hnb.out, H5.out, ?_⟩
  have G1 := (F2.out.mono (B' := A.owns) (fun y _ e => e ▸ hownb)).setCell (p := ⟨x.blk, 9, none⟩) (fun _ => hownx) (.int .i64 (x.n.links + 1))
  have G2 := (G1.alloc (.cells #[.pointer (some ⟨d.blk, 0, none⟩)] 69)).alloc (.cells #[.pointer (some ⟨x.blk, 0, none⟩)] 69)
  refine G2.trans Hf5.out fun y _ hb => ?_
  rcases hb with rfl | hb | hb
  · exact .inl rfl
  · obtain rfl : y = d.blk := by simpa using hb
    exact hownd
  · obtain rfl : y = x.blk := by simpa using hb
    exact hownx
end Go.Proofs.Ytccfimgpbmkpiaa
