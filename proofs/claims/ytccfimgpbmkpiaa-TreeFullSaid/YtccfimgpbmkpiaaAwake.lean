/- portmanteaulaw13.awake: true. No conditions. -/
import Derived.Test.YtccfimgpbmkpiaaState
import Derived.Lib.SlBytesConst
import Derived.Laws.OwnMore
namespace Go.Proofs.Ytccfimgpbmkpiaa
set_option linter.unusedVariables false
set_option linter.unusedSimpArgs false
set_option maxRecDepth 100000
open Go.RowKit Go.MapKept

theorem ok_f : nameOk ⟨#[102]⟩ = true := by kernel_rfl
theorem ok_d : nameOk ⟨#[100]⟩ = true := by kernel_rfl
theorem ok_e : nameOk ⟨#[101]⟩ = true := by kernel_rfl
theorem awake_makeErr (b : Nat) (q : Int) : (FSA.new b q).makeErr 1 ⟨#[102]⟩ ⟨1, 0, 0, 0, 0, ⟨#[]⟩, 0, 0, 0, 0, 0⟩ = 0 := by kernel_rfl

theorem node_of_core {o : Option NodeR} {c : Core} (h : o.map NodeR.core = some c) : ∃ r, o = some r ∧ r.core = c := by
  cases o with
  | none => cases h
  | some r => exact ⟨r, rfl, by simpa using h⟩

/-- What awake's tree is on its way. -/
structure AwF (A : FSA) (used size clock : Int) (l : List (Int × List UInt8)) (base : Nat) : Prop where
  used : A.used = used
  quota : A.quota = 10
  clock : A.clock = clock
  above : A.above base
  ex : ∃ r, A.node? 2 = some r ∧ r.n.kind = 1 ∧ r.n.size = size ∧ cont r.pieces = l

theorem awake_make {w w0 : World} {b : Nat} (h : FSAt w (FSA.new b 10)) (hb : Below b w0 w) (hs : b ≤ w0.heap.size) :
    Calls Try.prog 9 #[.pointer (some ⟨(FSA.new b 10).fb, 0, none⟩), .int .i64 1, .string ⟨#[102]⟩, .agg #[.int .i64 1, .int .i64 0, .int .i64 0, .int .i64 0, .int .i64 0, .string ⟨#[]⟩, .int .i64 0, .int .i64 0, .int .i64 0, .int .i64 0, .int .i64 0]] w fun e w' =>
      ∃ A1, e = .returned (.tuple #[.int .i64 2, .int .i64 0]) ∧ FSAt w' A1 ∧ AwF A1 0 0 1 [] b ∧ Below b w0 w' ∧ A1.fb = (FSA.new b 10).fb := by
  obtain ⟨db, hm⟩ := make_ok h 1 ⟨#[102]⟩ ⟨1, 0, 0, 0, 0, ⟨#[]⟩, 0, 0, 0, 0, 0⟩ (awake_makeErr b 10) (by intro p hp; simp [FSA.new] at hp; subst hp; show (1 : Int) < 2; omega) (by show (0 : Int) ≤ 2; omega) (by show (2 : Int) < _; omega) (by show (0 : Int) ≤ 0; omega) (by show (0 : Int) < _; omega)
  refine hm.mono ?_
  rintro e w' ⟨rfl, nb, xb, xm, h1, hx1, hx2, hx3, ⟨r, hr, hr2, hr3⟩, hf⟩
  have hxn : xm = none := by
    cases xm with
    | none => rfl
    | some y => exact absurd (hx3.1 rfl) (by decide)
  subst hxn
  obtain ⟨a1, a2, a3, a4, a5, _⟩ := made_rest (FSA.new b 10) 1 ⟨#[102]⟩ ⟨1, 0, 0, 0, 0, ⟨#[]⟩, 0, 0, 0, 0, 0⟩ db nb xb none
  have hc := made_core (FSA.new b 10) 1 ⟨#[102]⟩ ⟨1, 0, 0, 0, 0, ⟨#[]⟩, 0, 0, 0, 0, 0⟩ db nb xb none (by simp) (by intro p hp; simp [FSA.new] at hp; subst hp; show (1 : Int) < 2; omega) 2
  rw [if_pos (show (FSA.new b 10).next = 2 from rfl)] at hc
  obtain ⟨r', e1, e2⟩ := node_of_core hc
  have hbs := hb.size
  refine ⟨_, rfl, h1, ⟨a4, a3, a5, (new_above b 10).made (w := w) (by omega) hx1 hx2, r', e1, ?_, ?_, ?_⟩, (new_above b 10).frm hf hb hs, a1⟩
  · exact congrArg Core.kind e2
  · exact congrArg Core.size e2
  · have : r'.pieces = [] := congrArg Core.pieces e2
    rw [this]; rfl

theorem awake_write {w w0 : World} {A : FSA} {l' : List (Int × List UInt8)} (h : FSAt w A) {used size clock : Int} {l : List (Int × List UInt8)} {b : Nat} (ha : AwF A used size clock l b) (hb : Below b w0 w) (hs : b ≤ w0.heap.size) (hl : l.length ≤ 1000) (at_ : Int) (B : Option Addr) (n bc : Nat) (bs : List UInt8) (hB : BytesAt w B n bc bs)
    (ha0 : 0 ≤ at_) (ha1 : at_ + (n : Int) ≤ 1099511627776) (hn0 : 0 < n) (hok : ∀ ps, cont ps = l → (∀ p ∈ ps, p.bs.length = p.len) → PcOk ps ∧ Asc 0 ps) (hq0 : 0 ≤ used) (hq1 : used ≤ 10) (hc0 : 0 ≤ clock) (hc1 : clock < 1000) {K : Nat} {more : Int}
    (hf : ∀ ps, cont ps = l → (∀ p ∈ ps, p.bs.length = p.len) → fitsL ps at_ n (10 - used) = ((K : Int), more) ∧ mergeV (cont (partL ps 0 at_) ++ [(at_, bs.take K)] ++ cont (partL ps (at_ + K) 1099511627776)) = l')
    (hK0 : 0 < K) (hK1 : K ≤ n) (hm0 : 0 ≤ more) (hm1 : more ≤ 10 - used) :
    Calls Try.prog 15 #[.pointer (some ⟨A.fb, 0, none⟩), .int .i64 2, .int .i64 at_, .slice B n bc] w fun e w' =>
      ∃ A1, e = .returned (.int .i64 (if K < n then 5 else 0)) ∧ FSAt w' A1 ∧ AwF A1 (used + more) (max size (at_ + K)) (clock + 1) l' b ∧ Below b w0 w' ∧ A1.fb = A.fb := by
  obtain ⟨r, hr, hk, hsz, hl2⟩ := ha.ex
  have hp := (h.at_ hr).pcs
  have hbl : ∀ p ∈ r.pieces, p.bs.length = p.len := fun p hp' => (hp.2.2.2 p hp').1
  obtain ⟨ho, has⟩ := hok r.pieces hl2 hbl
  obtain ⟨hf1, hf2⟩ := hf r.pieces hl2 hbl
  have hpl : r.plen ≤ 524288 := by rw [← hp.1, ← show (cont r.pieces).length = r.pieces.length by simp [cont], hl2]; omega
  refine (write_pos h hr hk at_ B n bc bs hB.r ha0 ha1 hn0 hpl ho has (by rw [ha.used]; exact hq0) (by rw [ha.used, ha.quota]; exact hq1) (by rw [ha.quota]; omega) (by rw [ha.clock]; exact hc0) (by rw [ha.clock]; omega) (by rw [ha.used, ha.quota]; exact hf1) hK0 hK1 hm0 (by rw [ha.used, ha.quota]; exact hm1)).mono ?_
  rintro e w' ⟨rfl, P, pn, pc, ps, hcon, h1, hfr⟩
  obtain ⟨a1, a2, a3, a4, a5⟩ := wrote_rest A r P pn pc ps (max r.n.size (at_ + K)) more
  have hc := wrote_core A r P pn pc ps (max r.n.size (at_ + K)) more 2
  rw [hr, Option.map_some, if_pos rfl] at hc
  obtain ⟨r', e1, e2⟩ := node_of_core hc
  refine ⟨_, rfl, h1, ⟨?_, ?_, ?_, ?_, r', e1, ?_, ?_, ?_⟩, ha.above.frm (hfr.mono ?_) hb hs, a1⟩
  · rw [a4, ha.used]
  · rw [a3, ha.quota]
  · rw [a5, ha.clock]
  · intro x hx; rw [wrote_owns] at hx; exact ha.above x hx
  · rw [show r'.n.kind = r.n.kind from congrArg Core.kind e2]; exact hk
  · rw [show r'.n.size = _ from congrArg Core.size e2, hsz]
  · rw [show r'.pieces = ps from congrArg Core.pieces e2, hcon, hf2]
  · intro x _ hx
    rcases hx with rfl | rfl
    · exact .inl rfl
    · exact .inr (.inr (.inl (List.mem_map.2 ⟨_, h.mem hr, rfl⟩)))
theorem cont_nil {ps : List CP} (h : cont ps = []) : ps = [] := by
  cases ps with
  | nil => rfl
  | cons p ps => cases h
theorem cont_one {ps : List CP} {a : Int} {bs : List UInt8} (h : cont ps = [(a, bs)]) : ∃ p, ps = [p] ∧ p.at_ = a ∧ p.bs = bs := by
  cases ps with
  | nil => cases h
  | cons p ps =>
    have h' : (p.at_, p.bs) :: cont ps = [(a, bs)] := h
    injection h' with h1 h2
    injection h1 with h3 h4
    exact ⟨p, by rw [cont_nil h2], h3, h4⟩
theorem awake_fits (q : CP) (h1 : q.at_ = 10) (h2 : q.len = 3) : partL [q] 0 9 = [] := by
  unfold partL
  rw [List.filterMap_cons, h1, h2]
  kernel_rfl

theorem make9 (w : World) : (Instr.makeSlice 37 (.int .i64 9) (.int .i64 9)).run Try.prog w = .ok (.slice (some ⟨w.heap.size, 0, none⟩) 9 9) (w.alloc (.cells (madeCells #[.int .u8 0] 9) 5)) := by
  obtain ⟨i0, hi, hz0, hz1, hz2⟩ := info_parts infoU8
  have := run_makeSlice w 37 5 i0 (.int .u8 0) Try.underlying37 hi hz0 .i64 .i64 9 9 (by omega) (by omega) (by rw [hz1]; decide) (by rw [hz2]; decide) (by omega)
  rw [hz1] at this
  exact this
theorem bytes_abc (w : World) (fr : Nat × Nat) : BytesAt (w.alloc (.cells #[.int .u8 97, .int .u8 98, .int .u8 99] 5 fr)) (some ⟨w.heap.size, 0, none⟩) 3 3 [97, 98, 99] := by
  refine ⟨rfl, Nat.le_refl _, fun _ => ⟨w.heap.size, 0, _, _, fr, rfl, ⟨isB_u8, heap_alloc_new w _⟩, fun j hj => ?_⟩⟩
  have : j = 0 ∨ j = 1 ∨ j = 2 := by simp at hj; omega
  rcases this with rfl | rfl | rfl <;> rfl
theorem bytes_nought (w : World) : BytesAt (w.alloc (.cells (madeCells #[.int .u8 0] 9) 5)) (some ⟨w.heap.size, 0, none⟩) 9 9 (List.replicate 9 0) := by
  refine ⟨rfl, Nat.le_refl _, fun _ => ⟨w.heap.size, 0, _, _, (0, 0), rfl, ⟨isB_u8, heap_alloc_new w _⟩, fun j hj => ?_⟩⟩
  rw [List.length_replicate] at hj
  rw [List.getElem_replicate]
  have : (madeCells #[.int .u8 0] 9).toList[0 + j]? = some (.int .u8 0) := by rw [toList_madeCells_one, List.getElem?_replicate, if_pos (by omega)]
  rw [Array.getElem?_toList] at this
  exact this

theorem awake_any (w : World) : Calls Try.prog 12 #[] w fun e w' => e = .returned (.bool true) ∧ Below w.heap.size w w' := by
  go_enter Try.func12, Try.ntmps12
  go_wp2_with fail
  refine (new_any 10 w).mono ?_
  rintro e w1 ⟨rfl, h1, hb1⟩
  unfold FSA.fp
  go_wp2_with fail
  refine (awake_make h1 hb1 (Nat.le_refl _)).mono ?_
  rintro e w2 ⟨A1, rfl, h2, ha2, hb2, hfb2⟩
  rw [← hfb2]
  clear h1 hb1 hfb2
  have H2 := Lib.hid h2
  have Ha2 := Lib.hid ha2
  have Hb2 := Lib.hid hb2
  clear h2 ha2 hb2
  have hcv := fun (w : World) (C : Array Value) (n c : Nat) => Lib.run_convert_bytes_const (P := Try.prog) w 37 5 C n c Try.underlying37 Try.underlying5
  have hms := make9
  go_wp2_with fail
  refine (awake_write (l' := [(10, [97, 98, 99])]) (K := 3) (more := 3) (H2.out.alloc _) Ha2.out (Hb2.out.alloc Hb2.out.size _) (Nat.le_refl _) (by simp) 10 (some ⟨w2.heap.size, 0, none⟩) 3 3 [97, 98, 99] (bytes_abc w2 _) (by omega) (by omega) (by omega) ?_ (by omega) (by omega) (by omega) (by omega) ?_ (by omega) (by omega) (by omega) (by omega)).mono ?_
  · intro ps hps _
    rw [cont_nil hps]
    exact ⟨fun p hp => (by cases hp), trivial⟩
  · intro ps hps _
    rw [cont_nil hps]
    exact ⟨by kernel_rfl, by kernel_rfl⟩
  rintro e w3 ⟨A2, rfl, h3, ha3, hb3, hfb3⟩
  rw [← hfb3]
  clear hfb3 H2 Ha2 Hb2
  have H3 := Lib.hid h3
  have Ha3 := Lib.hid ha3
  have Hb3 := Lib.hid hb3
  clear h3 ha3 hb3
  go_wp2_with fail
  refine (awake_write (l' := [(0, [0, 0, 0, 0, 0, 0, 0]), (10, [97, 98, 99])]) (K := 7) (more := 7) (H3.out.alloc _) Ha3.out (Hb3.out.alloc Hb3.out.size _) (Nat.le_refl _) (by simp) 0 (some ⟨w3.heap.size, 0, none⟩) 9 9 (List.replicate 9 0) (bytes_nought w3) (by omega) (by omega) (by omega) ?_ (by omega) (by omega) (by omega) (by omega) ?_ (by omega) (by omega) (by omega) (by omega)).mono ?_
  · intro ps hps hln
    obtain ⟨p, rfl, p1, p2⟩ := cont_one hps
    have p3 : p.len = 3 := by rw [← hln p (by simp), p2]; rfl
    refine ⟨fun q hq => ?_, ?_, trivial⟩
    · obtain rfl : q = p := by simpa using hq
      omega
    · omega
  · intro ps hps hln
    obtain ⟨p, rfl, p1, p2⟩ := cont_one hps
    have p3 : p.len = 3 := by rw [← hln p (by simp), p2]; rfl
    obtain ⟨a, ad, len, cap, bs⟩ := p
    dsimp only at p1 p2 p3
    subst p1 p2 p3
    exact ⟨by kernel_rfl, by kernel_rfl⟩
  rintro e w4 ⟨A3, rfl, h4, ha4, hb4, hfb4⟩
  rw [← hfb4]
  have hu : A3.used = 10 := by rw [ha4.used]; omega
  obtain ⟨r, hr, hk, hsz, _⟩ := ha4.ex
  have cF := find_any h4 2 ⟨#[120]⟩
  have hfind : A3.find 2 ⟨#[120]⟩ = (0, 12) := by simp [FSA.find, FSA.placeErr, hr, hk]
  have cS := stat_any h4 2
  have hstat : A3.stat 2 = (r.n, 0) := by simp [FSA.stat, hr]
  rw [hfind] at cF
  rw [hstat] at cS
  have cR := root_any A3
  have cU := fun (w : World) (h : FSAt w A3) => used_any h
  rw [hu] at cU
  have hsz2 : r.n.size = 13 := by rw [hsz]; rfl
  unfold FSA.fp at *
  unfold ANode.val at cS
  rw [hsz2] at cS
  clear hfb4 H3 Ha3 Hb3 hcv hms
  have H4 := Lib.hid h4
  have Hb4 := Lib.hid hb4
  clear h4 ha4 hb4 hr hk hsz hfind hstat hsz2 hu
  go_wp2_with (first | (go_at_call 13; refine cF.mono ?_; rintro e w' ⟨rfl, rfl⟩) | (go_at_call 31; refine (cR _).mono ?_; rintro e w' ⟨rfl, rfl⟩))
  refine cS.mono ?_
  rintro e w5 ⟨rfl, hb5⟩
  have H5 := Lib.hid (H4.out.below hb5)
  have Hb5 := Lib.hid (Hb4.out.trans (hb5.mono Hb4.out.size))
  clear hb5 cS H4 Hb4 cF
  go_wp2_with (first | (go_at_call 31; refine (cR _).mono ?_; rintro e w' ⟨rfl, rfl⟩) | (go_at_call 17; refine (cU _ (H5.out.alloc _)).mono ?_; rintro e w' ⟨rfl, rfl⟩))
  go_ret
  exact ⟨rfl, Hb5.out.alloc Hb5.out.size _⟩
end Go.Proofs.Ytccfimgpbmkpiaa
