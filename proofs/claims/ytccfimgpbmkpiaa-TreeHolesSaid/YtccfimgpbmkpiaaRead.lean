/- (*tree.FS).Read: what it returns. Conditions: pieces that may be, a size that may be. -/
import Derived.Test.YtccfimgpbmkpiaaPieces
import Derived.Laws.CopyOwn
import Derived.Laws.MakeOwn
namespace Go.Proofs.Ytccfimgpbmkpiaa
set_option linter.unusedVariables false
set_option linter.unusedSimpArgs false
set_option maxRecDepth 100000
open Go.RowKit Go.MapKept

/-- The node is no file, or there is none. -/
theorem read_file {w : World} {A : FSA} (h : FSAt w A) {ino : Int} (he : A.fileErr ino ≠ 0) (at_ n : Int) :
    Calls Try.prog 20 #[A.fp, .int .i64 ino, .int .i64 at_, .int .i64 n] w fun e w' => e = .returned (.tuple #[.slice none 0 0, .int .i64 (A.fileErr ino)]) ∧ w = w' := by
  have cF := file_bad h he
  have hz' : (A.fileErr ino != 0) = true := by simp [he]
  unfold FSA.fp at *
  generalize A.fileErr ino = x at *
  have He := Lib.hid he
  clear h he
  go_enter Try.func20, Try.ntmps20
  go_wp2_with (go_at_call 32; refine cF.mono ?_; rintro e w' ⟨rfl, rfl⟩)
  go_ret2
  exact ⟨rfl, rfl⟩
/-- A number below 0. -/
theorem read_arg {w : World} {A : FSA} (h : FSAt w A) {ino : Int} {r : NodeR} (hr : A.node? ino = some r) (hk : r.n.kind = 1) (at_ n : Int) (hs : at_ < 0 ∨ n < 0) :
    Calls Try.prog 20 #[A.fp, .int .i64 ino, .int .i64 at_, .int .i64 n] w fun e w' => e = .returned (.tuple #[.slice none 0 0, .int .i64 1]) ∧ w = w' := by
  have cF := file_ok h hr hk
  unfold FSA.fp at *
  clear h hr hk
  by_cases h0 : at_ < 0
  · go_enter Try.func20, Try.ntmps20
    go_wp2_with (go_at_call 32; refine cF.mono ?_; rintro e w' ⟨rfl, rfl⟩)
    go_ret2
    exact ⟨rfl, rfl⟩
  · have h1 : n < 0 := by omega
    go_enter Try.func20, Try.ntmps20
    go_wp2_with (go_at_call 32; refine cF.mono ?_; rintro e w' ⟨rfl, rfl⟩)
    go_ret2
    exact ⟨rfl, rfl⟩

theorem made_zeros (n : Nat) : madeCells #[.int .u8 0] n = (List.replicate n (Value.int .u8 0)).toArray := by
  unfold madeCells
  apply Array.ext
  · simp
  · intro i h1 h2
    simp [Nat.mod_one]
theorem make_n (N : Nat) (hN : N ≤ 1099511627776) (w : World) : (Instr.makeSlice 37 (.int .i64 (N : Int)) (.int .i64 (N : Int))).run Try.prog w = .ok (.slice (some ⟨w.heap.size, 0, none⟩) N N) (w.alloc (.cells (List.replicate N (Value.int .u8 0)).toArray 5)) := by
  obtain ⟨i0, hi, hz0, hz1, hz2⟩ := info_parts infoU8
  have := run_make w 37 5 i0 (.int .u8 0) Try.underlying37 hi hz0 .i64 .i64 (N : Int) (N : Int) (by omega) (by omega) (by rw [hz2]; omega) (by omega)
  rw [hz1, Int.toNat_natCast, Nat.mul_one] at this
  rw [this]
  show Result.ok _ (w.alloc (.cells (madeCells #[.int .u8 0] N) 5)) = _
  rw [made_zeros]

/-- copy into a row that is known whole, as one step of a region that draws. -/
theorem step_copy_frm {P : Program} {ops : Array Oper} {o : Oper} {a : Act} {w : World} {K : Act → World → Prop} {Q : Exit → Act → World → Prop} {E : Prop} (hgd : o.guard = none) (d s : Operand) (dT sT : TypeId)
    (ho : o.op = .call { callee := .builtin .copy, args := #[d, s], argTypes := #[dT, sT] }) (elem : TypeId) (hu : P.underlying dT = some (.slice elem)) (hsz : (P.info? elem).map (·.size) = some 1)
    (g off dLen dCap : Nat) (ad : Addr) (sLen sCap : Nat) (hd : a.eval d = .slice (some ⟨g, off, none⟩) dLen dCap) (hs : a.eval s = .slice (some ad) sLen sCap)
    (cur : List Value) (t : TypeId) (hg : w.heap[g]? = some (.cells cur.toArray t (0, 0))) (cs : List Value) (hn : cs.length = Nat.min sLen dLen)
    (hsrc : ∀ j v, cs[j]? = some v → w.cell? (ad.add j) = some v) (hfit : off + cs.length ≤ cur.length) (h1 : ∀ v ∈ cs, v.oneCell' = true)
    (h : ∀ w', Hid (w'.heap[g]? = some (.cells (splice cur off cs).toArray t (0, 0))) → Frm (fun b => b = g) w w' → K (a.put o.dst (goInt cs.length)) w') :
    if Region.wanted o (yielded ops a.tmps) = true then Oper.wp P o a w K Q else E := by
  have hw : Region.wanted o (yielded ops a.tmps) = true := by simp [Region.wanted, hgd]
  rw [if_pos hw]
  have hrun := run_copy_row (P := P) w dT sT o.type elem g off dLen dCap ad sLen sCap cur.toArray t cs hu hsz hg hn hsrc (by simpa using hfit) h1
  unfold Oper.wp
  simp [execOp, ho, resolve, invoke, builtin, hd, hs, hrun, Result.andThen]
  refine h _ (show _ = _ by simpa [splice] using setRow_heap w g _ _ t _ hg) ?_
  exact ⟨rfl, rfl, rfl, by simp [World.setRow], fun k hk hn => setRow_other w g k _ hn⟩

/-- Pieces laid over a row of noughts. -/
def laid (at_ : Int) (ps : List CP) (L : List Value) : List Value := ps.foldl (fun L p => splice L (p.at_ - at_).toNat (bvals p.bs)) L
def ReadPost (w : World) (L : List Value) (n : Nat) (e : Ending) (w' : World) : Prop :=
  ∃ g, e = .returned (.tuple #[.slice (some ⟨g, 0, none⟩) n n, .int .i64 0]) ∧ L.length = n ∧ w.heap.size ≤ g ∧ w'.heap[g]? = some (.cells L.toArray 5 (0, 0)) ∧ Below w.heap.size w w'
theorem laid_length (at_ : Int) (n : Nat) : ∀ (ps : List CP) (L : List Value), (∀ p ∈ ps, at_ ≤ p.at_ ∧ p.at_ + (p.len : Int) ≤ at_ + (n : Int) ∧ p.bs.length = p.len) → L.length = n → (laid at_ ps L).length = n
  | [], L, _, h => h
  | p :: ps, L, hp, h => by
    obtain ⟨h1, h2, h3⟩ := hp p (by simp)
    refine laid_length at_ n ps _ (fun q hq => hp q (List.mem_cons_of_mem _ hq)) ?_
    rw [length_splice _ _ _ (by simp [bvals]; omega), h]
theorem laid_snoc (at_ : Int) {ps : List CP} (L : List Value) {k : Nat} {p : CP} (h : ps[k]? = some p) : laid at_ (ps.take (k + 1)) L = splice (laid at_ (ps.take k) L) (p.at_ - at_).toNat (bvals p.bs) := by
  unfold laid
  rw [List.take_add_one, h, Option.toList_some, List.foldl_append]; rfl

theorem alloc_heap {w : World} {b : Nat} {o : Obj} (h : w.heap[b]? = some o) (x : Obj) : (w.alloc x).heap[b]? = some o := (Below.heap_alloc w x b (heap_lt h)).trans h
theorem alloc_cells {w : World} {cs : List Value} {ad : Addr} (h : ∀ j v, cs[j]? = some v → w.cell? (ad.add j) = some v) (x : Obj) : ∀ j v, cs[j]? = some v → (w.alloc x).cell? (ad.add j) = some v := fun j v hj => (World.cell?_alloc_lt w x _ (World.block_lt_of_cell? w _ (h j v hj))).trans (h j v hj)
theorem box_frm {w w5 : World} {g : Nat} {q : Nat} {u v : Value} {t : TypeId} (hf : Frm (fun b => b = g) ((w.alloc (.cells #[u, v] t)).drewN q) w5) (hg : g < w.heap.size) : w5.cell? ⟨w.heap.size, 0, none⟩ = some u ∧ w5.cell? ⟨w.heap.size, 1, none⟩ = some v := by
  have hb : w5.heap[w.heap.size]? = (w.alloc (.cells #[u, v] t)).heap[w.heap.size]? := hf.blk _ (by show _ < (w.alloc _).heap.size; simp) (by omega)
  have hc : ∀ i, w5.cell? ⟨w.heap.size, i, none⟩ = (w.alloc (.cells #[u, v] t)).cell? ⟨w.heap.size, i, none⟩ := fun i => by simp only [World.cell?, hb]
  exact ⟨(hc 0).trans (World.cell?_alloc_new w #[u, v] t 0), (hc 1).trans (World.cell?_alloc_new w #[u, v] t 1)⟩
theorem Frm.drewN {B : Nat → Prop} {a w : World} (h : Frm B a w) (n : Nat) : Frm B a (w.drewN n) := ⟨h.os, h.tape, h.output, h.size, h.blk⟩
theorem read_piece {w w2 wr : World} {o : Obj} {P : Option Addr} {pn pc : Nat} {qs : List CP} (h : w2.ownsRow (w.alloc o).heap.size 54 2 (.slice P pn pc) pn (pcells qs)) (hf : Frm (fun b => b = w.heap.size) w2 wr) {k : Nat} (hk : k < pn) :
    ∃ p, qs[k]? = some p ∧ ∃ g, P = some ⟨g, 0, none⟩ ∧ wr.cell? ⟨g, k * 2, none⟩ = some (.int .i64 p.at_) ∧ wr.cell? ⟨g, k * 2 + 1, none⟩ = some (.slice p.ad p.len p.cap) := by
  obtain ⟨g, c, e, hg0, hg1⟩ := h.form (by omega)
  injection e with e _ e2
  subst e
  subst e2
  have hl : qs.length = pn := by have := h.1; rw [pcells_length] at this; omega
  have hk' : k < qs.length := by omega
  have hne : g ≠ w.heap.size := by rw [World.size_alloc] at hg0; omega
  have hb : wr.heap[g]? = w2.heap[g]? := hf.blk g hg1 hne
  have hc : ∀ i, wr.cell? ⟨g, i, none⟩ = w2.cell? ⟨g, i, none⟩ := fun i => by simp [World.cell?, hb]
  obtain ⟨x1, x2⟩ := pcells_get qs k hk'
  refine ⟨qs[k], List.getElem?_eq_getElem hk', g, rfl, ?_, ?_⟩
  · rw [hc]
    have := h.cells rfl (2 * k) _ x1
    rwa [Addr.add_lit, Nat.zero_add, Nat.mul_comm] at this
  · rw [hc]
    have := h.cells rfl (2 * k + 1) _ x2
    rwa [Addr.add_lit, Nat.zero_add, Nat.mul_comm] at this

set_option maxHeartbeats 1000000 in
theorem read_ok {w : World} {A : FSA} (h : FSAt w A) {ino : Int} {r : NodeR} (hr : A.node? ino = some r) (hk : r.n.kind = 1) (at_ n : Int) (ha : 0 ≤ at_) (ha1 : at_ ≤ 9223372036854775807) (hn0 : 0 ≤ n) (hm : r.plen ≤ 524288) (hok : PcOk r.pieces)
    (hz0 : 0 ≤ r.n.size) (hz1 : r.n.size ≤ 2199023255552) {N : Nat} (hN : min (min n 1048576) (max (r.n.size - at_) 0) = (N : Int)) :
    Calls Try.prog 20 #[A.fp, .int .i64 ino, .int .i64 at_, .int .i64 n] w (ReadPost w (laid at_ (partL r.pieces at_ (at_ + N)) (List.replicate N (.int .u8 0))) N) := by
  have hnode := h.at_ hr
  have hn := hnode.c
  have cF := file_ok h hr hk
  have H := Lib.hid h
  have Hok := Lib.hid hok
  have Hr := Lib.hid hr
  have hN0 : N ≤ 1048576 := by omega
  have hnlt := hnode.blk.lt
  have hN1 : at_ + (N : Int) ≤ 9223372036854775807 := by omega
  have hmin : ∀ w' : World, (Builtin.min_ #[3, 3, 3] 3 #[.int .i64 n, .int .i64 1048576, .int .i64 (max (r.n.size - at_) 0)]).run Try.prog w' = .ok (.int .i64 (N : Int)) w' := by
    intro w'
    rw [← hN]
    simp [Builtin.min_, Builtin.min2]
    omega
  have hmk := make_n N (by omega)
  have HN := Lib.hid hN
  clear h hok hnode hk hr hN
  unfold FSA.fp at *
  go_enter Try.func20, Try.ntmps20
  go_wp2_with (first | (go_at_call 32; refine cF.mono ?_; rintro e w' ⟨rfl, rfl⟩) | fail)
  have q1 : FSAt (w.alloc (.cells (List.replicate N (Value.int .u8 0)).toArray 5)) A := H.out.alloc _
  have cP := part_any (q1.at_ Hr.out).pcs (by omega) Hok.out at_ (at_ + N)
  refine cP.mono ?_
  intro e w2 hp
  obtain ⟨P, pn, pc, rfl, hpc, hlen, hrw, hb2⟩ := PartPost.pcs (q1.at_ Hr.out).pcs hp
  have hpl : pn ≤ 524288 := by
    have h1 := partL_length r.pieces at_ (at_ + N)
    have h2 := (q1.at_ Hr.out).pcs.1
    omega
  have hz2 : w2.heap[w.heap.size]? = some (.cells (List.replicate N (Value.int .u8 0)).toArray 5 (0, 0)) := (hb2.block w.heap.size (by simp)).trans (heap_alloc_new w _)
  have hb3 : Below w.heap.size w w2 := ((Below.refl _ w).alloc (Nat.le_refl _) _).trans (hb2.mono (by simp))
  have HP := Lib.hid hpc
  have HBy := Lib.hid (part_bytes (H.out.at_ Hr.out).pcs.2.2.2 (fun _ _ _ _ _ h => h) at_ (at_ + N))
  have HR := Lib.hid hrw
  have HZ := Lib.hid hz2
  have hall : ∀ p ∈ partL r.pieces at_ (at_ + N), at_ ≤ p.at_ ∧ p.at_ + (p.len : Int) ≤ at_ + (N : Int) ∧ p.bs.length = p.len ∧ 0 < p.len := by
    intro p hp
    have h1 := (hpc.2.2.2 p hp).1
    obtain ⟨q, hq, hlt, rfl⟩ := partL_mem hp
    simp only [CP.cut] at h1 ⊢
    omega
  have HA := Lib.hid hall
  obtain ⟨qs, hqs⟩ : ∃ qs, qs = partL r.pieces at_ (at_ + N) := ⟨_, rfl⟩
  rw [← hqs] at HP HA HBy HR ⊢
  have Hlen := Lib.hid (hlen.trans (by rw [← hqs]))
  have HQ := Lib.hid hqs
  clear q1 cP hp hpc hlen hrw hb2 hz2 hall hn cF hmin hmk hqs
  go_wp2_with fail
  go_loopw [54] (fun i wr => ∃ k : Nat, k ≤ pn ∧ i = .int .i64 k ∧ Hid (wr.heap[w.heap.size]? = some (.cells (laid at_ (qs.take k) (List.replicate N (Value.int .u8 0))).toArray 5 (0, 0))) ∧ Frm (fun b => b = w.heap.size) w2 wr ∧ Below w.heap.size w wr) (fun i _ => pn - (intOf i).toNat)
  case atStart => exact ⟨0, Nat.zero_le _, rfl, HZ, Frm.refl _ _, hb3⟩
  case round =>
    obtain ⟨k, hk, rfl, hz, hf, hb⟩ := hrel
    have HF := Lib.hid hf
    by_cases hlt : k < pn
    · obtain ⟨p, hp, g, P1, c1, c2⟩ := read_piece HR.out HF.out hlt
      subst P1
      have hmem := List.mem_of_getElem? hp
      obtain ⟨ha1, ha2, ha3, ha4⟩ := HA.out p hmem
      have hB := HBy.out p hmem
      obtain ⟨pb, po, cs, t, fr, had, ⟨_, hpg⟩, hcs⟩ := hB.2.2 (by omega)
      have hgl : g < wr.heap.size := World.block_lt_of_cell? wr _ c1
      have hll : (laid at_ (qs.take k) (List.replicate N (Value.int .u8 0))).length = N := laid_length at_ N _ _ (fun q hq => by obtain ⟨x1, x2, x3, _⟩ := HA.out q (List.mem_of_mem_take hq); exact ⟨x1, x2, x3⟩) (by simp)
      have HL := Lib.hid hll
      have hsn := laid_snoc at_ (List.replicate N (Value.int .u8 0)) hp
      have HSn := Lib.hid hsn
      have HPad := Lib.hid had
      have hsrc : ∀ j v, (bvals p.bs)[j]? = some v → wr.cell? ((⟨pb, po, none⟩ : Addr).add j) = some v := by
        have := hB.keep (KeepT.of_below hb)
        rw [had] at this
        exact this.cells
      have HS := Lib.hid hsrc
      have hbl : (bvals p.bs).length = p.len := by simp [bvals, ha3]
      have HBl := Lib.hid hbl
      have hx0 : (0 : Int) ≤ p.at_ - at_ := by omega
      have hx1 : p.at_ - at_ ≤ (N : Int) := by omega
      obtain ⟨D, hD⟩ : ∃ D : Nat, p.at_ - at_ = (D : Int) := ⟨(p.at_ - at_).toNat, by omega⟩
      have hD1 : D < N := by omega
      have hD2 : D + p.len ≤ N := by omega
      have hxw : IntKind.i64.wrap (p.at_ - at_) = (D : Int) := by rw [hD]; exact IntWalk.i64_in _ (by omega)
      have hD3 : ¬ N = D := by omega
      have hD4 : (0 : Int) ≤ (D : Int) := by omega
      have hD5 : (D : Int) ≤ (N : Int) := by omega
      have HD := Lib.hid hD
      clear hp hmem hB hcs hll hsn had hsrc hbl hD hx0 hx1 hpg ha3
      have hws : w.heap.size < wr.heap.size := heap_lt hz
      go_wp2_with fail
      go_region_held3 (fun w' => w'.cell? ⟨wr.heap.size, 0, none⟩ = some (.int .i64 p.at_) ∧ w'.cell? ⟨wr.heap.size, 1, none⟩ = some (.slice p.ad p.len p.cap)) (first | exact kb2 | go_keep)
        (first
          | (refine step_copy_frm (by rfl) (.tmp 63) (.tmp 65) 37 37 (by rfl) 5 Try.underlying37 (by kernel_rfl) w.heap.size D (N - D) (N - D) ⟨pb, po, none⟩ p.len p.cap (by rfl) (by rw [← HPad.out]; rfl) (laid at_ (qs.take k) (List.replicate N (Value.int .u8 0))) 5 (alloc_heap hz.out _) (bvals p.bs) (by rw [HBl.out]; exact (Nat.min_eq_left (by omega)).symm) (alloc_cells HS.out _) (by rw [HBl.out, HL.out]; omega) (bvals_one _) ?_; intro w5 hz5 hf5; have kb2 := box_frm (q := 1) hf5 hws))
      have hz6 : Hid (w5.heap[w.heap.size]? = some (.cells (laid at_ (qs.take (k + 1)) (List.replicate N (Value.int .u8 0))).toArray 5 (0, 0))) := by
        have h1 := hz5.out
        have h2 := HSn.out
        rw [HD.out, Int.toNat_natCast] at h2
        rw [h2]
        exact Lib.hid h1
      have hf6 : Frm (fun b => b = w.heap.size) w2 w5 := ((HF.out.alloc (.cells #[.int .i64 p.at_, .slice p.ad p.len p.cap] 54)).drewN 1).trans' hf5
      have hb6 : Below w.heap.size w w5 := (belowN (hb.alloc hb.size (.cells #[.int .i64 p.at_, .slice p.ad p.len p.cap] 54)) 1).trans (hf5.below (by show _ ≤ (wr.alloc _).heap.size; simp; omega) (fun x hx => by omega))
      clear hz5 hf5 kb2
      go_wp2_with fail
      go_roundw
      case rel => exact ⟨k + 1, by omega, by go_num, hz6, hf6, hb6⟩
      case measure => simp [intOf]; omega
    · obtain rfl : k = pn := by omega
      have e : qs.take k = qs := List.take_of_length_le (by rw [Hlen.out]; exact Nat.le_refl _)
      have hz7 : Hid (wr.heap[w.heap.size]? = some (.cells (laid at_ qs (List.replicate N (Value.int .u8 0))).toArray 5 (0, 0))) := by rw [e] at hz; exact hz
      clear hz e
      go_wp2_with fail
      go_ret2
      have hz8 := hz7.out
      have hl := laid_length at_ N qs (List.replicate N (Value.int .u8 0)) (fun q hq => by obtain ⟨x1, x2, x3, _⟩ := HA.out q hq; exact ⟨x1, x2, x3⟩) (by simp)
      rw [HQ.out] at hz8 hl
      exact ⟨w.heap.size, rfl, hl, Nat.le_refl _, hz8, hb⟩
end Go.Proofs.Ytccfimgpbmkpiaa
