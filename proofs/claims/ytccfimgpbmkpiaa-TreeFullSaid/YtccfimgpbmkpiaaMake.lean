/- (*tree.FS).Make: what it returns and what the tree is then. Condition: the clock and the next number are at least 0 and below 2^62. -/
import Derived.Test.YtccfimgpbmkpiaaFsC
import Derived.Test.YtccfimgpbmkpiaaTick
import Derived.Test.YtccfimgpbmkpiaaNodeOk
namespace Go.Proofs.Ytccfimgpbmkpiaa
set_option linter.unusedVariables false
set_option linter.unusedSimpArgs false
set_option maxRecDepth 100000
open Go.RowKit Go.MapKept

/-- The error of Make. -/
def FSA.makeErr (A : FSA) (dir : Int) (part : ByteArray) (n : ANode) : Int :=
  if A.placeErr dir part ≠ 0 then A.placeErr dir part
  else if nodeB n.kind n.mode n.user n.group n.target n.major n.minor n.size n.links n.change = false then 1
  else match A.node? dir with
    | none => 10
    | some r => if (look r.names part).isSome then 11 else if 1000 ≤ A.nodes.length then 14 else 0

/-- The tree behind Make: the new node's blocks. -/
def FSA.made (A : FSA) (dir : Int) (part : ByteArray) (n : ANode) (db : Nat) (nb : Nat) (xb : Nat) (xm : Option Nat) : FSA :=
  (((FSA.addNode { A with next := A.next + 1 } A.next { n := { n with links := 1 }, nm := xm, names := [], pad := none, plen := 0, pcap := 0, pieces := [], up := dir, blk := xb }).updN nb fun l => l ++ [(part, A.next)]).tick [db] [xb])

theorem ptrs1 (w : World) (b : Nat) : PtrsAt (w.alloc (.cells #[.pointer (some ⟨b, 0, none⟩)] 69)) (some ⟨w.heap.size, 0, none⟩) 1 [b] := by
  refine ⟨rfl, fun _ => ⟨w.heap.size, 0, _, (0, 0), rfl, heap_alloc_new w _, fun j hj => ?_⟩⟩
  obtain rfl : j = 0 := by simpa using hj
  rfl

theorem ptrs2 (w : World) (a b : Nat) : PtrsAt ((w.alloc (.cells #[.pointer (some ⟨a, 0, none⟩)] 69)).alloc (.cells #[.pointer (some ⟨b, 0, none⟩)] 69)) (some ⟨w.heap.size + 1, 0, none⟩) 1 [b] := by
  have := ptrs1 (w.alloc (.cells #[.pointer (some ⟨a, 0, none⟩)] 69)) b
  rwa [World.size_alloc] at this
theorem IsNode.of {w : World} {r : NodeR} (h : NodeAt w r) : IsNode w r.blk := ⟨_, h.blk, rfl⟩
theorem IsNode.alloc {w : World} {b : Nat} (h : IsNode w b) (o : Obj) : IsNode (w.alloc o) b := by
  obtain ⟨cs, h1, h2⟩ := h
  exact ⟨cs, h1.alloc o, h2⟩
theorem FSAt.alloc {w : World} {A : FSA} (h : FSAt w A) (o : Obj) : FSAt (w.alloc o) A := h.below ((Below.refl _ _).alloc (Nat.le_refl _) o)
theorem PtrsAt.alloc {w : World} {A : Option Addr} {n : Nat} {bs : List Nat} (h : PtrsAt w A n bs) (o : Obj) : PtrsAt (w.alloc o) A n bs := h.keep (KeepT.of_below ((Below.refl _ _).alloc (Nat.le_refl _) o))

/-- A call that ends in an error leaves all as it was. -/
theorem make_bad {w : World} {A : FSA} (h : FSAt w A) {dir : Int} {part : ByteArray} (n : ANode) (hr : A.placeErr dir part ≠ 0) :
    Calls Try.prog 9 #[A.fp, .int .i64 dir, .string part, n.val] w fun e w' => e = .returned (.tuple #[.int .i64 0, .int .i64 (A.placeErr dir part)]) ∧ Below w.heap.size w w' := by
  have cP := fun o => place_bad (h.alloc o) hr
  have hz : (A.placeErr dir part == 0) = false := beq_eq_false_iff_ne.2 hr
  unfold FSA.fp ANode.val at *
  generalize A.placeErr dir part = x at *
  have Hz := Lib.hid hr
  clear hr h
  have hz' : (x != 0) = true := by simp [Hz.out]
  go_enter Try.func9, Try.ntmps9
  go_wp2_with (go_at_call 26; refine (cP _).mono ?_; rintro e w' ⟨rfl, rfl⟩)
  go_ret2
  exact ⟨rfl, (Below.refl _ _).alloc (Nat.le_refl _) _⟩

theorem below1 {w w1 : World} (o1 : Obj) (h : Below (w.alloc o1).heap.size (w.alloc o1) w1) : Below w.heap.size w w1 :=
  ((Below.refl _ w).alloc (Nat.le_refl _) o1).trans (h.mono (by simp))

set_option maxHeartbeats 1000000 in
theorem make_arg {w : World} {A : FSA} (h : FSAt w A) {dir : Int} {part : ByteArray} (n : ANode) {r : NodeR} (hr : A.node? dir = some r) (hk : r.n.kind = 6) (ho : nameOk part = true)
    (hn : nodeB n.kind n.mode n.user n.group n.target n.major n.minor n.size n.links n.change = false) :
    Calls Try.prog 9 #[A.fp, .int .i64 dir, .string part, n.val] w fun e w' => e = .returned (.tuple #[.int .i64 0, .int .i64 1]) ∧ Below w.heap.size w w' := by
  have cP := fun o => place_ok (h.alloc o) hr hk ho
  obtain ⟨b, hb⟩ := (h.at_ hr).nm_of hk
  have hc := fun o => ((h.alloc o).at_ hr).c
  rw [hb] at hc
  have hl := fun o => ((h.alloc o).at_ hr).lookup hb part true
  simp only [if_true] at hl
  unfold FSA.fp ANode.val at *
  have Hn := Lib.hid hn
  have hrb := (h.at_ hr).blk.lt
  clear hr hk ho hb h hn
  go_enter Try.func9, Try.ntmps9
  go_wp2_with (first | (go_at_call 26; refine (cP _).mono ?_; rintro e w' ⟨rfl, rfl⟩) | (go_at_call 27; refine (nodeOk_any _ _ _ _ _ _ _ _ _ _ _ _).mono ?_; rintro e w1 ⟨rfl, hb1⟩; rw [Hn.out]))
  go_ret2
  exact ⟨rfl, below1 _ hb1⟩

set_option maxHeartbeats 1000000 in
theorem make_exists {w : World} {A : FSA} (h : FSAt w A) {dir : Int} {part : ByteArray} (n : ANode) {r : NodeR} (hr : A.node? dir = some r) (hk : r.n.kind = 6) (ho : nameOk part = true)
    (hn : nodeB n.kind n.mode n.user n.group n.target n.major n.minor n.size n.links n.change = true) {j : Int} (hold : look r.names part = some j) :
    Calls Try.prog 9 #[A.fp, .int .i64 dir, .string part, n.val] w fun e w' => e = .returned (.tuple #[.int .i64 0, .int .i64 11]) ∧ Below w.heap.size w w' := by
  have cP := fun o => place_ok (h.alloc o) hr hk ho
  obtain ⟨b, hb⟩ := (h.at_ hr).nm_of hk
  have hc := fun o => ((h.alloc o).at_ hr).c
  rw [hb] at hc
  have hl := fun o => ((h.alloc o).at_ hr).lookup hb part true
  simp only [if_true, hold, Option.getD_some, Option.isSome_some] at hl
  have Hn := Lib.hid hn
  have hrb := (h.at_ hr).blk.lt
  have Hh := Lib.hid h
  clear hr hk ho hb h hn hold
  unfold FSA.fp ANode.val at *
  go_enter Try.func9, Try.ntmps9
  go_wp2_with (first | (go_at_call 26; refine (cP _).mono ?_; rintro e w' ⟨rfl, rfl⟩) | (go_at_call 27; refine (nodeOk_any _ _ _ _ _ _ _ _ _ _ _ _).mono ?_; rintro e w1 ⟨rfl, hb1⟩; rw [Hn.out]; clear hc hl cP; have h1 := Hh.out.below (below1 _ hb1); have hc := h1.c; have hlen := h1.len 3; have hfb := h1.fs.lt; clear h1))
  go_ret2
  exact ⟨rfl, below1 _ hb1⟩

set_option maxHeartbeats 1000000 in
theorem make_full {w : World} {A : FSA} (h : FSAt w A) {dir : Int} {part : ByteArray} (n : ANode) {r : NodeR} (hr : A.node? dir = some r) (hk : r.n.kind = 6) (ho : nameOk part = true)
    (hn : nodeB n.kind n.mode n.user n.group n.target n.major n.minor n.size n.links n.change = true) (hnew : look r.names part = none) (hfull : 1000 ≤ A.nodes.length) (hlim : A.nodes.length < 4611686018427387904) :
    Calls Try.prog 9 #[A.fp, .int .i64 dir, .string part, n.val] w fun e w' => e = .returned (.tuple #[.int .i64 0, .int .i64 14]) ∧ Below w.heap.size w w' := by
  have cP := fun o => place_ok (h.alloc o) hr hk ho
  obtain ⟨b, hb⟩ := (h.at_ hr).nm_of hk
  have hc := fun o => ((h.alloc o).at_ hr).c
  rw [hb] at hc
  have hl := fun o => ((h.alloc o).at_ hr).lookup hb part true
  simp only [if_true, hnew, Option.getD_none, Option.isSome_none] at hl
  have Hn := Lib.hid hn
  have hrb := (h.at_ hr).blk.lt
  have Hh := Lib.hid h
  clear hr hk ho hb h hn hnew
  unfold FSA.fp ANode.val at *
  go_enter Try.func9, Try.ntmps9
  go_wp2_with (first | (go_at_call 26; refine (cP _).mono ?_; rintro e w' ⟨rfl, rfl⟩) | (go_at_call 27; refine (nodeOk_any _ _ _ _ _ _ _ _ _ _ _ _).mono ?_; rintro e w1 ⟨rfl, hb1⟩; rw [Hn.out]; clear hc hl cP; have h1 := Hh.out.below (below1 _ hb1); have hc := h1.c; have hlen := h1.len 3; have hfb := h1.fs.lt; clear h1))
  go_ret2
  exact ⟨rfl, below1 _ hb1⟩

def MadePost (A : FSA) (dir : Int) (part : ByteArray) (n : ANode) (db : Nat) (w : World) (v : Value) (e : Ending) (w' : World) : Prop :=
  e = .returned (.tuple #[v, .int .i64 0]) ∧ ∃ nb xb xm, FSAt w' (A.made dir part n db nb xb xm) ∧ w.heap.size ≤ xb ∧ (∀ y, xm = some y → w.heap.size ≤ y) ∧ (xm.isSome = true ↔ n.kind = 6) ∧ (∃ r, A.node? dir = some r ∧ r.blk = db ∧ r.nm = some nb) ∧ Frm A.owns w w'

set_option maxHeartbeats 4000000 in
theorem make_dir {w : World} {A : FSA} (h : FSAt w A) {dir : Int} {part : ByteArray} (n : ANode) {r : NodeR} (hr : A.node? dir = some r) (hk : r.n.kind = 6) (ho : nameOk part = true)
    (hn : nodeB n.kind n.mode n.user n.group n.target n.major n.minor n.size n.links n.change = true) (hnew : look r.names part = none) (hfull : A.nodes.length < 1000) (hkind : (n.kind == 6) = true)
    (hfresh : ∀ p ∈ A.nodes, p.1 < A.next) (hnx0 : 0 ≤ A.next) (hnx1 : A.next < 4611686018427387904) (hck0 : 0 ≤ A.clock) (hck1 : A.clock < 4611686018427387904) :
    Calls Try.prog 9 #[A.fp, .int .i64 dir, .string part, n.val] w (MadePost A dir part n r.blk w (.int .i64 A.next)) := by
  have cP := fun o => place_ok (h.alloc o) hr hk ho
  obtain ⟨b, hb⟩ := (h.at_ hr).nm_of hk
  have hc := fun o => ((h.alloc o).at_ hr).c
  rw [hb] at hc
  have hl := fun o => ((h.alloc o).at_ hr).lookup hb part true
  simp only [if_true, hnew, Option.getD_none, Option.isSome_none] at hl
  have Hn := Lib.hid hn
  have hrb := (h.at_ hr).blk.lt
  have Hh := Lib.hid h
  have Hr := Lib.hid hr
  have Hb := Lib.hid hb
  have Hnew := Lib.hid hnew
  have Hfresh := Lib.hid hfresh
  clear hfresh
  clear hr hk ho hb h hn hnew
  have hmm := @run_makeMap Try.prog
  unfold FSA.fp ANode.val at *
  go_enter Try.func9, Try.ntmps9
  go_wp2_with (first | (go_at_call 26; refine (cP _).mono ?_; rintro e w' ⟨rfl, rfl⟩) | (go_at_call 27; refine (nodeOk_any _ _ _ _ _ _ _ _ _ _ _ _).mono ?_; rintro e w1 ⟨rfl, hb1⟩; rw [Hn.out]; clear hc hl cP; have h1 := Hh.out.below (below1 _ hb1); have hc := h1.c; have hf := h1.f; have hlen := h1.len 3; have hxc := (h1.at_ Hr.out).c; rw [Hb.out] at hxc; have hfb := h1.fs.lt; have hxb := (h1.at_ Hr.out).blk.lt; have hbx := ((Blk.new w 29 _).frm (Frm.of_below hb1 (fun _ => False)) id).cell; have hbl : w.heap.size < w1.heap.size := (by have := hb1.size; simp at this; omega); have H1 := Lib.hid h1; have HB1 := Lib.hid (below1 _ hb1); clear h1 hb1))
  have hne : dir ≠ A.next := fun e => by have := Hfresh.out _ (Hh.out.mem Hr.out); simp at this; omega
  have hA2 := ((H1.out.counter (i := 1) (v := .int .i64 (A.next + 1)) (A' := { A with next := A.next + 1 }) rfl rfl rfl rfl).alloc (.cells #[.int .i64 n.kind, .int .i64 n.mode, .int .i64 n.user, .int .i64 n.group, .int .i64 n.time, .string n.target, .int .i64 n.major, .int .i64 n.minor, .int .i64 n.size, .int .i64 1, .int .i64 n.change, .map (some (w1.heap.size + 1)), .slice none 0 0, .int .i64 dir] 72)).alloc (.map #[] 0)
  refine upon_push hA2.map Try.underlying73 Try.underlying3 eInt_key eInt_inj A.next w1.heap.size (by
    simp only [List.map_map, List.mem_map, Function.comp]
    rintro ⟨p, hp, e⟩
    have := Hfresh.out p hp
    omega) ?_
  intro w3 hm3 ho3
  have hx3 : NodeAt w3 { n := { n with links := 1 }, nm := (some (w1.heap.size + 1)), names := [], pad := none, plen := 0, pcap := 0, pieces := [], up := dir, blk := w1.heap.size } := by
    have hB := (Blk.new (w1.setCell ⟨A.fb, 1, none⟩ (.int .i64 (A.next + 1))) 72 #[.int .i64 n.kind, .int .i64 n.mode, .int .i64 n.user, .int .i64 n.group, .int .i64 n.time, .string n.target, .int .i64 n.major, .int .i64 n.minor, .int .i64 n.size, .int .i64 1, .int .i64 n.change, .map (some (w1.heap.size + 1)), .slice none 0 0, .int .i64 dir]).alloc (.map #[] 0)
    rw [World.size_setCell] at hB
    have hmb : A.mb < w1.heap.size := H1.out.map.lt
    exact ⟨ho3.blk hB (show w1.heap.size ≠ A.mb by omega), fun b' hb' => by
        obtain rfl : w1.heap.size + 1 = b' := by injection hb'
        have hM := MapOf.new (K := ByteArray) (V := Int) (eK := eStr) (eV := eInt) ((w1.setCell ⟨A.fb, 1, none⟩ (.int .i64 (A.next + 1))).alloc (.cells #[.int .i64 n.kind, .int .i64 n.mode, .int .i64 n.user, .int .i64 n.group, .int .i64 n.time, .string n.target, .int .i64 n.major, .int .i64 n.minor, .int .i64 n.size, .int .i64 1, .int .i64 n.change, .map (some (w1.heap.size + 1)), .slice none 0 0, .int .i64 dir] 72))
        rw [World.size_alloc, World.size_setCell] at hM
        exact hM.keep (ho3.far _ (show w1.heap.size + 1 ≠ A.mb by omega)), fun hn => by (cases hn), by simpa using hkind, PcsAt.nil _⟩
  have h3 := hA2.add hx3 (i := A.next) (fun hmem => by
    obtain ⟨p, hp, e⟩ := List.mem_map.1 hmem
    have := (H1.out.node p hp).blk.lt
    simp only at e
    omega) (fun b' hb' => by
    obtain rfl : w1.heap.size + 1 = b' := by injection hb'
    refine ⟨fun e => ?_, fun hmem => ?_⟩
    · have hmb : A.mb < w1.heap.size := H1.out.map.lt
      have e' : w1.heap.size + 1 = A.mb := e
      omega
    · obtain ⟨p, hp, e⟩ := List.mem_filterMap.1 hmem
      have := ((H1.out.node p hp).nm _ e).lt
      omega) hm3 ho3
  have hr3 : (FSA.addNode { A with next := A.next + 1 } A.next { n := { n with links := 1 }, nm := (some (w1.heap.size + 1)), names := [], pad := none, plen := 0, pcap := 0, pieces := [], up := dir, blk := w1.heap.size }).node? dir = some r := by
    rw [addNode_node _ _ _ (fun hmem => by
      obtain ⟨p, hp, e⟩ := List.mem_map.1 hmem
      have := Hfresh.out p hp
      omega), if_neg (Ne.symm hne)]
    exact Hr.out
  have hxc3 := (h3.at_ hr3).c
  rw [Hb.out] at hxc3
  have Hm3 := Lib.hid (ho3)
  have H3 := Lib.hid h3
  have Hx3 := Lib.hid hx3
  clear hc hf hxc hlen hbx hA2 hm3 ho3 hx3 h3
  go_wp2_with fail
  refine upon_push ((H3.out.at_ hr3).nm b Hb.out) Try.underlying70 Try.underlying9 eStr_key eStr_inj part A.next (look_none.1 Hnew.out) ?_
  intro w4 hm4 ho4
  have h4 := H3.out.names hr3 Hb.out (g := fun l => l ++ [(part, A.next)]) hm4 ho4
  have hs4 : w1.heap.size < w4.heap.size := by
    rw [ho4.size, Hm3.out.size]
    simp only [World.size_alloc, World.size_setCell]
    omega
  have hfb4 : A.fb < w4.heap.size := by omega
  have hmb3 := (H3.out.at_ hr3).nm b Hb.out
  have hnr : IsNode w4 r.blk := ⟨_, ho4.blk (H3.out.at_ hr3).blk (hmb3.ne_blk (H3.out.at_ hr3).blk).symm, rfl⟩
  have hnx : IsNode w4 w1.heap.size := ⟨_, ho4.blk Hx3.out.blk (hmb3.ne_blk Hx3.out.blk).symm, rfl⟩
  have Hnr := Lib.hid hnr
  have Hnx := Lib.hid hnx
  clear hmb3 hnr hnx
  have Hm4 := Lib.hid ho4
  have H4 := Lib.hid h4
  have Hr3 := Lib.hid hr3
  clear hm4 ho4 h4 hxc3 hr3
  go_wp2_with fail
  refine (tick_any ((H4.out.alloc _).alloc _) hck0 hck1 (some ⟨w4.heap.size, 0, none⟩) (some ⟨w4.heap.size + 1, 0, none⟩) 1 1 [r.blk] [w1.heap.size] ((ptrs1 w4 r.blk).alloc _) (ptrs2 w4 r.blk w1.heap.size) (by simp) (by simp) ?_).mono ?_
  · intro x hx
    rcases hx with hx | hx
    · obtain rfl : x = r.blk := by simpa using hx
      exact (Hnr.out.alloc _).alloc _
    · obtain rfl : x = w1.heap.size := by simpa using hx
      exact (Hnx.out.alloc _).alloc _
  rintro e w5 ⟨rfl, h5, hf5⟩
  go_wp2
  go_ret2
  have hown : A.owns b := .inr (.inr (.inr (List.mem_filterMap.2 ⟨_, H1.out.mem Hr.out, Hb.out⟩)))
  have hownr : A.owns r.blk := .inr (.inr (.inl (List.mem_map.2 ⟨_, H1.out.mem Hr.out, rfl⟩)))
  refine ⟨rfl, b, w1.heap.size, (some (w1.heap.size + 1)), h5, by omega, fun y hy => by (injection hy; omega), by simpa using hkind, ⟨r, Hr.out, rfl, Hb.out⟩, ?_⟩
  have F1 := ((((Frm.of_below HB1.out A.owns).setCell (p := ⟨A.fb, 1, none⟩) (fun _ => .inl rfl) (.int .i64 (A.next + 1))).alloc (.cells #[.int .i64 n.kind, .int .i64 n.mode, .int .i64 n.user, .int .i64 n.group, .int .i64 n.time, .string n.target, .int .i64 n.major, .int .i64 n.minor, .int .i64 n.size, .int .i64 1, .int .i64 n.change, .map (some (w1.heap.size + 1)), .slice none 0 0, .int .i64 dir] 72)).alloc (.map #[] 0)).trans Hm3.out.frm (fun x _ e => .inr (.inl e))
  have F2 := ((F1.trans Hm4.out.frm (fun x _ e => e ▸ hown)).alloc (.cells #[.pointer (some ⟨r.blk, 0, none⟩)] 69)).alloc (.cells #[.pointer (some ⟨w1.heap.size, 0, none⟩)] 69)
  refine F2.trans hf5 fun x hx hb => ?_
  rcases hb with rfl | hb | hb
  · exact .inl rfl
  · obtain rfl : x = r.blk := by simpa using hb
    exact hownr
  · obtain rfl : x = w1.heap.size := by simpa using hb
    omega

set_option maxHeartbeats 4000000 in
theorem make_oth {w : World} {A : FSA} (h : FSAt w A) {dir : Int} {part : ByteArray} (n : ANode) {r : NodeR} (hr : A.node? dir = some r) (hk : r.n.kind = 6) (ho : nameOk part = true)
    (hn : nodeB n.kind n.mode n.user n.group n.target n.major n.minor n.size n.links n.change = true) (hnew : look r.names part = none) (hfull : A.nodes.length < 1000) (hkind : (n.kind == 6) = false)
    (hfresh : ∀ p ∈ A.nodes, p.1 < A.next) (hnx0 : 0 ≤ A.next) (hnx1 : A.next < 4611686018427387904) (hck0 : 0 ≤ A.clock) (hck1 : A.clock < 4611686018427387904) :
    Calls Try.prog 9 #[A.fp, .int .i64 dir, .string part, n.val] w (MadePost A dir part n r.blk w (.int .i64 A.next)) := by
  have cP := fun o => place_ok (h.alloc o) hr hk ho
  obtain ⟨b, hb⟩ := (h.at_ hr).nm_of hk
  have hc := fun o => ((h.alloc o).at_ hr).c
  rw [hb] at hc
  have hl := fun o => ((h.alloc o).at_ hr).lookup hb part true
  simp only [if_true, hnew, Option.getD_none, Option.isSome_none] at hl
  have Hn := Lib.hid hn
  have hrb := (h.at_ hr).blk.lt
  have Hh := Lib.hid h
  have Hr := Lib.hid hr
  have Hb := Lib.hid hb
  have Hnew := Lib.hid hnew
  have Hfresh := Lib.hid hfresh
  clear hfresh
  clear hr hk ho hb h hn hnew
  have hmm := @run_makeMap Try.prog
  unfold FSA.fp ANode.val at *
  go_enter Try.func9, Try.ntmps9
  go_wp2_with (first | (go_at_call 26; refine (cP _).mono ?_; rintro e w' ⟨rfl, rfl⟩) | (go_at_call 27; refine (nodeOk_any _ _ _ _ _ _ _ _ _ _ _ _).mono ?_; rintro e w1 ⟨rfl, hb1⟩; rw [Hn.out]; clear hc hl cP; have h1 := Hh.out.below (below1 _ hb1); have hc := h1.c; have hf := h1.f; have hlen := h1.len 3; have hxc := (h1.at_ Hr.out).c; rw [Hb.out] at hxc; have hfb := h1.fs.lt; have hxb := (h1.at_ Hr.out).blk.lt; have hbx := ((Blk.new w 29 _).frm (Frm.of_below hb1 (fun _ => False)) id).cell; have hbl : w.heap.size < w1.heap.size := (by have := hb1.size; simp at this; omega); have H1 := Lib.hid h1; have HB1 := Lib.hid (below1 _ hb1); clear h1 hb1))
  have hne : dir ≠ A.next := fun e => by have := Hfresh.out _ (Hh.out.mem Hr.out); simp at this; omega
  have hA2 := ((H1.out.counter (i := 1) (v := .int .i64 (A.next + 1)) (A' := { A with next := A.next + 1 }) rfl rfl rfl rfl).alloc (.cells #[.int .i64 n.kind, .int .i64 n.mode, .int .i64 n.user, .int .i64 n.group, .int .i64 n.time, .string n.target, .int .i64 n.major, .int .i64 n.minor, .int .i64 n.size, .int .i64 1, .int .i64 n.change, .map none, .slice none 0 0, .int .i64 dir] 72))
  refine upon_push hA2.map Try.underlying73 Try.underlying3 eInt_key eInt_inj A.next w1.heap.size (by
    simp only [List.map_map, List.mem_map, Function.comp]
    rintro ⟨p, hp, e⟩
    have := Hfresh.out p hp
    omega) ?_
  intro w3 hm3 ho3
  have hx3 : NodeAt w3 { n := { n with links := 1 }, nm := none, names := [], pad := none, plen := 0, pcap := 0, pieces := [], up := dir, blk := w1.heap.size } := by
    have hB := (Blk.new (w1.setCell ⟨A.fb, 1, none⟩ (.int .i64 (A.next + 1))) 72 #[.int .i64 n.kind, .int .i64 n.mode, .int .i64 n.user, .int .i64 n.group, .int .i64 n.time, .string n.target, .int .i64 n.major, .int .i64 n.minor, .int .i64 n.size, .int .i64 1, .int .i64 n.change, .map none, .slice none 0 0, .int .i64 dir])
    rw [World.size_setCell] at hB
    have hmb : A.mb < w1.heap.size := H1.out.map.lt
    exact ⟨ho3.blk hB (show w1.heap.size ≠ A.mb by omega), fun _ hb => by (cases hb), fun _ => rfl, by simpa using hkind, PcsAt.nil _⟩
  have h3 := hA2.add hx3 (i := A.next) (fun hmem => by
    obtain ⟨p, hp, e⟩ := List.mem_map.1 hmem
    have := (H1.out.node p hp).blk.lt
    simp only at e
    omega) (fun b hb => by (cases hb)) hm3 ho3
  have hr3 : (FSA.addNode { A with next := A.next + 1 } A.next { n := { n with links := 1 }, nm := none, names := [], pad := none, plen := 0, pcap := 0, pieces := [], up := dir, blk := w1.heap.size }).node? dir = some r := by
    rw [addNode_node _ _ _ (fun hmem => by
      obtain ⟨p, hp, e⟩ := List.mem_map.1 hmem
      have := Hfresh.out p hp
      omega), if_neg (Ne.symm hne)]
    exact Hr.out
  have hxc3 := (h3.at_ hr3).c
  rw [Hb.out] at hxc3
  have Hm3 := Lib.hid (ho3)
  have H3 := Lib.hid h3
  have Hx3 := Lib.hid hx3
  clear hc hf hxc hlen hbx hA2 hm3 ho3 hx3 h3
  go_wp2_with fail
  refine upon_push ((H3.out.at_ hr3).nm b Hb.out) Try.underlying70 Try.underlying9 eStr_key eStr_inj part A.next (look_none.1 Hnew.out) ?_
  intro w4 hm4 ho4
  have h4 := H3.out.names hr3 Hb.out (g := fun l => l ++ [(part, A.next)]) hm4 ho4
  have hs4 : w1.heap.size < w4.heap.size := by
    rw [ho4.size, Hm3.out.size]
    simp only [World.size_alloc, World.size_setCell]
    omega
  have hfb4 : A.fb < w4.heap.size := by omega
  have hmb3 := (H3.out.at_ hr3).nm b Hb.out
  have hnr : IsNode w4 r.blk := ⟨_, ho4.blk (H3.out.at_ hr3).blk (hmb3.ne_blk (H3.out.at_ hr3).blk).symm, rfl⟩
  have hnx : IsNode w4 w1.heap.size := ⟨_, ho4.blk Hx3.out.blk (hmb3.ne_blk Hx3.out.blk).symm, rfl⟩
  have Hnr := Lib.hid hnr
  have Hnx := Lib.hid hnx
  clear hmb3 hnr hnx
  have Hm4 := Lib.hid ho4
  have H4 := Lib.hid h4
  have Hr3 := Lib.hid hr3
  clear hm4 ho4 h4 hxc3 hr3
  go_wp2_with fail
  refine (tick_any ((H4.out.alloc _).alloc _) hck0 hck1 (some ⟨w4.heap.size, 0, none⟩) (some ⟨w4.heap.size + 1, 0, none⟩) 1 1 [r.blk] [w1.heap.size] ((ptrs1 w4 r.blk).alloc _) (ptrs2 w4 r.blk w1.heap.size) (by simp) (by simp) ?_).mono ?_
  · intro x hx
    rcases hx with hx | hx
    · obtain rfl : x = r.blk := by simpa using hx
      exact (Hnr.out.alloc _).alloc _
    · obtain rfl : x = w1.heap.size := by simpa using hx
      exact (Hnx.out.alloc _).alloc _
  rintro e w5 ⟨rfl, h5, hf5⟩
  go_wp2
  go_ret2
  have hown : A.owns b := .inr (.inr (.inr (List.mem_filterMap.2 ⟨_, H1.out.mem Hr.out, Hb.out⟩)))
  have hownr : A.owns r.blk := .inr (.inr (.inl (List.mem_map.2 ⟨_, H1.out.mem Hr.out, rfl⟩)))
  refine ⟨rfl, b, w1.heap.size, none, h5, by omega, fun y hy => by (cases hy), by simpa using hkind, ⟨r, Hr.out, rfl, Hb.out⟩, ?_⟩
  have F1 := ((((Frm.of_below HB1.out A.owns).setCell (p := ⟨A.fb, 1, none⟩) (fun _ => .inl rfl) (.int .i64 (A.next + 1))).alloc (.cells #[.int .i64 n.kind, .int .i64 n.mode, .int .i64 n.user, .int .i64 n.group, .int .i64 n.time, .string n.target, .int .i64 n.major, .int .i64 n.minor, .int .i64 n.size, .int .i64 1, .int .i64 n.change, .map none, .slice none 0 0, .int .i64 dir] 72))).trans Hm3.out.frm (fun x _ e => .inr (.inl e))
  have F2 := ((F1.trans Hm4.out.frm (fun x _ e => e ▸ hown)).alloc (.cells #[.pointer (some ⟨r.blk, 0, none⟩)] 69)).alloc (.cells #[.pointer (some ⟨w1.heap.size, 0, none⟩)] 69)
  refine F2.trans hf5 fun x hx hb => ?_
  rcases hb with rfl | hb | hb
  · exact .inl rfl
  · obtain rfl : x = r.blk := by simpa using hb
    exact hownr
  · obtain rfl : x = w1.heap.size := by simpa using hb
    omega

/-- Make ends in an error: nothing has turned. -/
theorem make_err {w : World} {A : FSA} (h : FSAt w A) (dir : Int) (part : ByteArray) (n : ANode) (he : A.makeErr dir part n ≠ 0) (hlim : A.nodes.length < 4611686018427387904) :
    Calls Try.prog 9 #[A.fp, .int .i64 dir, .string part, n.val] w fun e w' => e = .returned (.tuple #[.int .i64 0, .int .i64 (A.makeErr dir part n)]) ∧ Below w.heap.size w w' := by
  unfold FSA.makeErr at *
  by_cases h1 : A.placeErr dir part = 0
  · obtain ⟨r, hr, hk, ho⟩ := placeErr_zero h1
    rw [if_neg (by simp [h1])] at *
    by_cases h2 : nodeB n.kind n.mode n.user n.group n.target n.major n.minor n.size n.links n.change = false
    · rw [if_pos h2]
      exact make_arg h n hr hk ho h2
    · rw [if_neg h2] at *
      have h2' := Bool.not_eq_false _ ▸ h2
      simp only [hr] at he ⊢
      cases hl : look r.names part with
      | some j => simpa using make_exists h n hr hk ho (by simpa using h2) hl
      | none =>
        simp only [hl, Option.isSome_none, Bool.false_eq_true, if_false] at he ⊢
        by_cases h3 : 1000 ≤ A.nodes.length
        · rw [if_pos h3]; exact make_full h n hr hk ho (by simpa using h2) hl h3 hlim
        · rw [if_neg h3] at he; exact absurd rfl he
  · rw [if_pos h1]
    exact make_bad h n h1

/-- Make goes well. -/
theorem make_ok {w : World} {A : FSA} (h : FSAt w A) (dir : Int) (part : ByteArray) (n : ANode) (he : A.makeErr dir part n = 0)
    (hfresh : ∀ p ∈ A.nodes, p.1 < A.next) (hnx0 : 0 ≤ A.next) (hnx1 : A.next < 4611686018427387904) (hck0 : 0 ≤ A.clock) (hck1 : A.clock < 4611686018427387904) :
    ∃ db, Calls Try.prog 9 #[A.fp, .int .i64 dir, .string part, n.val] w (MadePost A dir part n db w (.int .i64 A.next)) := by
  unfold FSA.makeErr at he
  by_cases h1 : A.placeErr dir part = 0
  · obtain ⟨r, hr, hk, ho⟩ := placeErr_zero h1
    rw [if_neg (by simp [h1])] at he
    by_cases h2 : nodeB n.kind n.mode n.user n.group n.target n.major n.minor n.size n.links n.change = false
    · rw [if_pos h2] at he; cases he
    · rw [if_neg h2] at he
      simp only [hr] at he
      cases hl : look r.names part with
      | some j => simp [hl] at he
      | none =>
        simp only [hl, Option.isSome_none, Bool.false_eq_true, if_false] at he
        by_cases h3 : 1000 ≤ A.nodes.length
        · rw [if_pos h3] at he; cases he
        · by_cases h4 : n.kind = 6
          · exact ⟨_, make_dir h n hr hk ho (by simpa using h2) hl (by omega) (by simp [h4]) hfresh hnx0 hnx1 hck0 hck1⟩
          · exact ⟨_, make_oth h n hr hk ho (by simpa using h2) hl (by omega) (by simp [h4]) hfresh hnx0 hnx1 hck0 hck1⟩
  · rw [if_pos h1] at he; exact absurd he h1
end Go.Proofs.Ytccfimgpbmkpiaa
