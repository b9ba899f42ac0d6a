/- TreeHoles: one file in the root, its bytes as cells: what Make, Grow, Write, Read, Pieces make of it. Conditions: at most 1100 places, a quota below 1024. -/
import Derived.Test.YtccfimgpbmkpiaaMarks
import Derived.Test.YtccfimgpbmkpiaaBunchStart
namespace Go.Proofs.Ytccfimgpbmkpiaa
set_option linter.unusedVariables false
set_option linter.unusedSimpArgs false
set_option maxRecDepth 100000
open Go.RowKit Go.MapKept

structure HoleSt (A : FSA) (q S : Nat) (l : List (Int × UInt8)) (c : Int) (base : Nat) : Prop where
  above : A.above base
  clock : A.clock = c
  used : A.used = l.length
  quota : A.quota = q
  le : l.length ≤ q
  file : ∃ r, A.node? 2 = some r ∧ FileOk r ∧ flat (cont r.pieces) = l ∧ r.n.size = S
  cells : ∀ x ∈ l, 0 ≤ x.1 ∧ x.1 < 1100
theorem HoleSt.nodup {A : FSA} {q S : Nat} {l : List (Int × UInt8)} {c : Int} {base : Nat} (h : HoleSt A q S l c base) : l.Pairwise fun x y => x.1 < y.1 := by
  obtain ⟨r, _, hF, rfl, _⟩ := h.file
  exact flat_nodup hF.sep.row
theorem lens_of {w : World} {A : FSA} (h : FSAt w A) {i : Int} {r : NodeR} (hr : A.node? i = some r) : (∀ p ∈ r.pieces, p.bs.length = p.len) ∧ r.plen = r.pieces.length := ⟨fun p hp => ((h.at_ hr).pcs.2.2.2 p hp).1, (h.at_ hr).pcs.1.symm⟩

def nF : ByteArray := ⟨#[102]⟩
theorem hole_makeErr (b : Nat) (q : Int) : (FSA.new b q).makeErr 1 nF ⟨1, 0, 0, 0, 0, ⟨#[]⟩, 0, 0, 0, 0, 0⟩ = 0 := by kernel_rfl
theorem new_quota (b : Nat) (q : Nat) : (FSA.new b q).quota = q := by show max (q : Int) 0 = q; omega
theorem hole_make {w w0 : World} {b q : Nat} (h : FSAt w (FSA.new b q)) (hb : Below b w0 w) (hs : b ≤ w0.heap.size) :
    Calls Try.prog 9 #[(FSA.new b q).fp, .int .i64 1, .string nF, (⟨1, 0, 0, 0, 0, ⟨#[]⟩, 0, 0, 0, 0, 0⟩ : ANode).val] w fun e w' =>
      ∃ A1, e = .returned (.tuple #[.int .i64 2, .int .i64 0]) ∧ FSAt w' A1 ∧ HoleSt A1 q 0 [] 1 b ∧ Below b w0 w' ∧ A1.fb = (FSA.new b q).fb := by
  have hfr : ∀ p ∈ (FSA.new b q).nodes, p.1 < (FSA.new b q).next := by intro p hp; simp [FSA.new] at hp; subst hp; show (1 : Int) < 2; omega
  obtain ⟨db, hm⟩ := make_ok h 1 nF ⟨1, 0, 0, 0, 0, ⟨#[]⟩, 0, 0, 0, 0, 0⟩ (hole_makeErr b q) hfr (by show (0 : Int) ≤ 2; omega) (by show (2 : Int) < _; omega) (by show (0 : Int) ≤ 0; omega) (by show (0 : Int) < _; omega)
  refine hm.mono ?_
  rintro e w' ⟨rfl, nb, xb, xm, h1, hx1, hx2, hx3, ⟨r, hr, hr2, hr3⟩, hf⟩
  have hxn : xm = none := by
    cases xm with
    | none => rfl
    | some y => exact absurd (hx3.1 rfl) (by decide)
  subst hxn
  obtain ⟨a1, a2, a3, a4, a5, a6⟩ := made_rest (FSA.new b q) 1 nF ⟨1, 0, 0, 0, 0, ⟨#[]⟩, 0, 0, 0, 0, 0⟩ db nb xb none
  have hc2 := made_core (FSA.new b q) 1 nF ⟨1, 0, 0, 0, 0, ⟨#[]⟩, 0, 0, 0, 0, 0⟩ db nb xb none (by simp) hfr 2
  rw [if_pos (show (FSA.new b q).next = 2 from rfl)] at hc2
  obtain ⟨x, e1, e2⟩ := node_of_core hc2
  obtain ⟨x1, x2⟩ := lens_of h1 e1
  have hpp : x.pieces = [] := congrArg Core.pieces e2
  have hsz : x.n.size = 0 := congrArg Core.size e2
  refine ⟨_, rfl, h1, ⟨(new_above b q).made (w := w) (by have := hb.size; omega) hx1 hx2, a5, by rw [a4]; rfl, a3.trans (new_quota b q), Nat.zero_le _, ⟨x, e1, ⟨congrArg Core.kind e2, by rw [hpp]; exact Sep.nil, x1, by rw [hpp]; exact (fun y hy => absurd hy (by simp [flat, cont])), by rw [hpp]; simp [flat, cont], x2⟩, by rw [hpp]; rfl, by rw [hsz]; rfl⟩, (fun y hy => absurd hy (by simp))⟩, (new_above b q).frm hf hb hs, a1⟩

/-- What a write or a cut leaves. -/
theorem hole_after {w w' : World} {A : FSA} {q S : Nat} {l : List (Int × UInt8)} {c : Int} {base : Nat} (h : FSAt w A) (hH : HoleSt A q S l c base) {r : NodeR} (hr : A.node? 2 = some r) (hk : r.n.kind = 1) {P : Option Addr} {pn pc : Nat} {ps : List CP} {S' : Nat} {more : Int}
    (h1 : FSAt w' (A.wrote r P pn pc ps S' more)) (hs : Sep (cont ps)) (hm : ((flat (cont ps)).length : Int) = l.length + more) (hle : (flat (cont ps)).length ≤ q) (hq : q ≤ 1023) (hcells : ∀ x ∈ flat (cont ps), 0 ≤ x.1 ∧ x.1 < 1100) :
    HoleSt (A.wrote r P pn pc ps S' more) q S' (flat (cont ps)) (c + 1) base := by
  obtain ⟨a1, a2, a3, a4, a5⟩ := wrote_rest A r P pn pc ps S' more
  have hc := wrote_core A r P pn pc ps S' more 2
  rw [hr, Option.map_some, if_pos rfl] at hc
  obtain ⟨x, e1, e2⟩ := node_of_core hc
  obtain ⟨x1, x2⟩ := lens_of h1 e1
  have hpp : x.pieces = ps := congrArg Core.pieces e2
  refine ⟨fun b hb => hH.above b (by rw [wrote_owns] at hb; exact hb), by rw [a5, hH.clock], by rw [a4, hH.used, hm], a3.trans hH.quota, hle, ⟨x, e1, ⟨(congrArg Core.kind e2).trans hk, by rw [hpp]; exact hs, x1, ?_, ?_, x2⟩, by rw [hpp], congrArg Core.size e2⟩, hcells⟩
  · rw [hpp]
    intro y hy
    have := hcells y hy
    omega
  · rw [hpp]; omega
theorem hole_owns {w : World} {A : FSA} (h : FSAt w A) {i : Int} {r : NodeR} (hr : A.node? i = some r) {y : Nat} (hy : y = A.fb ∨ y = r.blk) : A.owns y := by
  rcases hy with rfl | rfl
  · exact .inl rfl
  · exact .inr (.inr (.inl (List.mem_map.2 ⟨_, h.mem hr, rfl⟩)))

theorem hole_grow {w w0 : World} {A : FSA} {q S : Nat} {l : List (Int × UInt8)} {c : Int} {base : Nat} (h : FSAt w A) (hH : HoleSt A q S l c base) (hq : q ≤ 1023) (hc0 : 0 ≤ c) (hc1 : c < 1000000) (a : Nat) (ha : a ≤ 1100) (hb : Below base w0 w) (hs : base ≤ w0.heap.size) :
    Calls Try.prog 19 #[A.fp, .int .i64 2, .int .i64 a] w fun e w' => e = .returned (.int .i64 0) ∧ ∃ A1, FSAt w' A1 ∧ A1.fb = A.fb ∧ HoleSt A1 q a (l.filter fun x => decide (x.1 < (a : Int))) (c + 1) base ∧ Below base w0 w' ∧ Frm A.owns w w' := by
  obtain ⟨r, hr, hF, rfl, hsz⟩ := hH.file
  have hsl := sumLen_flat hF.lens
  have hle := hH.le
  refine (grow_ok h hr hF.kind a (by omega) (by omega) hF.plen_le hF.pcok (by omega) (by rw [hH.used]; omega) (by rw [hH.used]; omega) (by rw [hH.clock]; omega) (by rw [hH.clock]; omega)).mono ?_
  rintro e w' ⟨rfl, P, pn, pc, h1, hf⟩
  have hfl := flat_grown hF.lens (fun x hx => (hH.cells x hx).1) a
  have hlp : ∀ p ∈ partL r.pieces 0 a, p.bs.length = p.len := by
    intro p hp
    obtain ⟨y, hy, hlt, rfl⟩ := partL_mem hp
    have := hF.lens y hy
    simp only [CP.cut, List.length_take, List.length_drop]
    omega
  have hsl2 := sumLen_flat hlp
  have hlen : (flat (cont (partL r.pieces 0 a))).length ≤ (flat (cont r.pieces)).length := by rw [hfl]; exact List.length_filter_le _ _
  refine ⟨rfl, _, h1, (wrote_rest A r P pn pc _ a _).1, ?_, hH.above.frm (hf.mono fun y _ hy => hole_owns h hr hy) hb hs, hf.mono fun y _ hy => hole_owns h hr hy⟩
  rw [← hfl]
  refine hole_after h hH hr hF.kind h1 (sep_partL hF.lens hF.sep 0 a) (by rw [hsl, hsl2]; omega) (by omega) hq fun x hx => ?_
  rw [hfl] at hx
  exact hH.cells x (List.mem_filter.1 hx).1

def HoleWrote (A : FSA) (q S : Nat) (l : List (Int × UInt8)) (c : Int) (base : Nat) (a n : Nat) (bs : List UInt8) (w0 w : World) (K : Nat) (e : Ending) (w' : World) : Prop :=
  e = .returned (.int .i64 (if K < n then 5 else 0)) ∧ ∃ A1 c1, FSAt w' A1 ∧ A1.fb = A.fb ∧ HoleSt A1 q (if 0 < K then max S (a + K) else S) (if 0 < K then wroteF l a (bs.take K) else l) c1 base ∧ c ≤ c1 ∧ c1 ≤ c + 1 ∧ Below base w0 w' ∧ Frm A.owns w w'
theorem hole_write {w w0 : World} {A : FSA} {q S : Nat} {l : List (Int × UInt8)} {c : Int} {base : Nat} (h : FSAt w A) (hH : HoleSt A q S l c base) (hq : q ≤ 1023) (hc0 : 0 ≤ c) (hc1 : c < 1000000) (a : Nat) {B : Option Addr} {n bc : Nat} {bs : List UInt8} (hB : BytesR w B n bc bs) (ha : a + n ≤ 1100) (hb : Below base w0 w) (hs : base ≤ w0.heap.size) :
    Calls Try.prog 15 #[A.fp, .int .i64 2, .int .i64 a, .slice B n bc] w (HoleWrote A q S l c base a n bs w0 w (greedy (hasF l) n a (q - l.length)).1) := by
  obtain ⟨r, hr, hF, hfl, hsz⟩ := hH.file
  have hle := hH.le
  have hroom : (A.quota - A.used).toNat = q - l.length := by rw [hH.quota, hH.used]; omega
  have hfit : fitN A r a n = greedy (hasF l) n a (q - l.length) := by unfold fitN; rw [hroom, hfl]
  refine (write_any h hr hF a B n bc bs hB (by omega) (by omega) (by rw [hH.used]; omega) (by rw [hH.used, hH.quota]; omega) (by rw [hH.quota]; omega) (by rw [hH.clock]; omega) (by rw [hH.clock]; omega)).mono ?_
  rintro e w' ⟨rfl, hf, hcase⟩
  have hbl : Below base w0 w' ∧ Frm A.owns w w' := ⟨hH.above.frm (hf.mono fun y _ hy => hole_owns h hr hy) hb hs, hf.mono fun y _ hy => hole_owns h hr hy⟩
  rw [hfit] at hcase
  obtain ⟨g1, g2, g3⟩ := greedy_le (hasF l) n a (q - l.length)
  have gc := greedy_cnt (hasF l) n a (q - l.length)
  refine ⟨by rw [hfit], ?_⟩
  generalize greedy (hasF l) n a (q - l.length) = K at *
  rcases hcase with ⟨hK, h1⟩ | ⟨hK, P, pn, pc, ps, h1, hs1, hf1⟩
  · rw [if_neg (by omega), if_neg (by omega)]
    exact ⟨A, c, h1, rfl, hH, by omega, by omega, hbl⟩
  · rw [if_pos hK, if_pos hK]
    rw [hfl] at hf1
    have hlen : (bs.take K.1).length = K.1 := by rw [List.length_take, hB.1]; omega
    have hw := wroteF_length hH.nodup a (bs.take K.1)
    rw [hlen, ← hf1] at hw
    rw [hsz] at h1
    have hS : max (S : Int) ((a : Int) + (K.1 : Int)) = ((max S (a + K.1) : Nat) : Int) := by omega
    rw [hS] at h1
    refine ⟨_, c + 1, h1, (wrote_rest A r P pn pc ps _ _).1, ?_, by omega, by omega, hbl⟩
    rw [← hf1]
    refine hole_after h hH hr hF.kind h1 hs1 (by omega) (by omega) hq fun x hx => ?_
    rw [hf1] at hx
    rcases wroteF_mem hx with hx | hx
    · exact hH.cells x hx
    · rw [hlen] at hx; omega
theorem hole_read {w w0 : World} {A : FSA} {q S : Nat} {l : List (Int × UInt8)} {c : Int} {base : Nat} (h : FSAt w A) (hH : HoleSt A q S l c base) (hS : S ≤ 1100) {is : List Bool} {cs : List UInt8} (hm : Marks l is cs) :
    Calls Try.prog 20 #[A.fp, .int .i64 2, .int .i64 0, .int .i64 2000] w (ReadPost w (bvals (wantL is cs S)) S) := by
  obtain ⟨r, hr, hF, rfl, hsz⟩ := hH.file
  have := read_ok h hr hF.kind 0 2000 (by omega) (by omega) (by omega) hF.plen_le hF.pcok (by omega) (by omega) (N := S) (by rw [hsz]; omega)
  rwa [read_want hF.lens hF.sep hm hS] at this
theorem hole_pieces {w w0 : World} {A : FSA} {q S : Nat} {l : List (Int × UInt8)} {c : Int} {base : Nat} (h : FSAt w A) (hH : HoleSt A q S l c base) :
    ∃ v, Sep v ∧ flat v = l ∧ Calls Try.prog 21 #[A.fp, .int .i64 2] w (ClonedPost w v) := by
  obtain ⟨r, hr, hF, rfl, hsz⟩ := hH.file
  exact ⟨_, hF.sep, rfl, pieces_ok h hr hF.kind hF.plen_le hF.pcok hF.sep⟩
end Go.Proofs.Ytccfimgpbmkpiaa
