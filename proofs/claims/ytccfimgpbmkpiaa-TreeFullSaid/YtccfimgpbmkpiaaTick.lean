/- (*tree.FS).tick: the clock and the marks of some nodes. Condition: the clock is at least 0 and below 2^62. -/
import Derived.Test.YtccfimgpbmkpiaaFsB
import Derived.Test.YtccfimgpbmkpiaaFsA
import Derived.Deep.Light
import Derived.Outline
namespace Go.Proofs.Ytccfimgpbmkpiaa
set_option linter.unusedVariables false
set_option linter.unusedSimpArgs false
set_option maxRecDepth 100000
open Go.RowKit Go.MapKept

/-- Pointers to nodes behind a slice. -/
def PtrsAt (w : World) (A : Option Addr) (n : Nat) (bs : List Nat) : Prop :=
  bs.length = n ∧ (0 < n → ∃ g o cs fr, A = some ⟨g, o, none⟩ ∧ w.heap[g]? = some (.cells cs 69 fr) ∧ ∀ j (h : j < bs.length), cs[o + j]? = some (.pointer (some ⟨bs[j], 0, none⟩)))
/-- Block b is a node's. -/
def IsNode (w : World) (b : Nat) : Prop := ∃ cs, Blk w b 72 cs ∧ cs.size = 14

theorem PtrsAt.nil (w : World) : PtrsAt w none 0 [] := ⟨rfl, fun h => absurd h (by omega)⟩
theorem PtrsAt.keep {w w' : World} {A : Option Addr} {n : Nat} {bs : List Nat} (h : PtrsAt w A n bs) (hk : KeepT (· = 69) w w') : PtrsAt w' A n bs := by
  refine ⟨h.1, fun hn => ?_⟩
  obtain ⟨g, o, cs, fr, e, hg, hc⟩ := h.2 hn
  exact ⟨g, o, cs, fr, e, hk g cs _ fr rfl hg, hc⟩
theorem PtrsAt.at_ {w : World} {A : Option Addr} {n : Nat} {bs : List Nat} (h : PtrsAt w A n bs) {k : Nat} (hk : k < n) :
    ∃ g o b, A = some ⟨g, o, none⟩ ∧ bs[k]? = some b ∧ w.cell? ⟨g, o + k, none⟩ = some (.pointer (some ⟨b, 0, none⟩)) := by
  obtain ⟨g, o, cs, fr, e, hg, hc⟩ := h.2 (by omega)
  have hl : k < bs.length := by have := h.1; omega
  exact ⟨g, o, bs[k], e, List.getElem?_eq_getElem hl, (cell_of_row w g (o + k) cs _ fr hg).trans (hc k hl)⟩
theorem IsNode.setCell {w : World} {b : Nat} (h : IsNode w b) (b' i : Nat) (v : Value) : IsNode (w.setCell ⟨b', i, none⟩ v) b := by
  obtain ⟨cs, h1, h2⟩ := h
  by_cases e : b = b'
  · subst e; exact ⟨_, h1.set_ i v, by simpa using h2⟩
  · exact ⟨cs, h1.far (p := ⟨b', i, none⟩) e v, h2⟩

def FSA.tickD (A : FSA) (c : Int) (ds : List Nat) : FSA := ds.foldl (fun A b => (A.updB b (setChange c)).updB b (setTime c)) A
def FSA.tickL (A : FSA) (c : Int) (ls : List Nat) : FSA := ls.foldl (fun A b => A.updB b (setChange c)) A
/-- tick. -/
def FSA.tick (A : FSA) (ds ls : List Nat) : FSA := (FSA.tickD { A with clock := A.clock + 1 } (A.clock + 1) ds).tickL (A.clock + 1) ls

theorem tickD_fb (A : FSA) (c : Int) (ds : List Nat) : (A.tickD c ds).fb = A.fb ∧ (A.tickD c ds).mb = A.mb ∧ (A.tickD c ds).next = A.next ∧ (A.tickD c ds).quota = A.quota ∧ (A.tickD c ds).used = A.used ∧ (A.tickD c ds).clock = A.clock := by
  induction ds generalizing A with
  | nil => exact ⟨rfl, rfl, rfl, rfl, rfl, rfl⟩
  | cons b ds ih => exact ih _
theorem tickL_fb (A : FSA) (c : Int) (ds : List Nat) : (A.tickL c ds).fb = A.fb ∧ (A.tickL c ds).mb = A.mb ∧ (A.tickL c ds).next = A.next ∧ (A.tickL c ds).quota = A.quota ∧ (A.tickL c ds).used = A.used ∧ (A.tickL c ds).clock = A.clock := by
  induction ds generalizing A with
  | nil => exact ⟨rfl, rfl, rfl, rfl, rfl, rfl⟩
  | cons b ds ih => exact ih _
theorem tickD_owns (A : FSA) (c : Int) (ds : List Nat) : (A.tickD c ds).owns = A.owns := by
  induction ds generalizing A with
  | nil => rfl
  | cons b ds ih => exact (ih _).trans ((updB_owns (f := setTime c) _ (fun _ => rfl) (fun _ => rfl)).trans (updB_owns (f := setChange c) _ (fun _ => rfl) (fun _ => rfl)))
theorem tickL_owns (A : FSA) (c : Int) (ds : List Nat) : (A.tickL c ds).owns = A.owns := by
  induction ds generalizing A with
  | nil => rfl
  | cons b ds ih => exact (ih _).trans (updB_owns (f := setChange c) _ (fun _ => rfl) (fun _ => rfl))
theorem tickD_snoc (A : FSA) (c : Int) (ds : List Nat) (k b : Nat) (h : ds[k]? = some b) : A.tickD c (ds.take (k + 1)) = ((A.tickD c (ds.take k)).updB b (setChange c)).updB b (setTime c) := by
  unfold FSA.tickD
  rw [List.take_add_one, h, Option.toList_some, List.foldl_append]; rfl
theorem tickL_snoc (A : FSA) (c : Int) (ds : List Nat) (k b : Nat) (h : ds[k]? = some b) : A.tickL c (ds.take (k + 1)) = (A.tickL c (ds.take k)).updB b (setChange c) := by
  unfold FSA.tickL
  rw [List.take_add_one, h, Option.toList_some, List.foldl_append]; rfl

/-- What a round of tick keeps. -/
structure TickRel (w : World) (ds ls : List Nat) (fb : Nat) (DA LA : Option Addr) (c : Int) (A' : FSA) (wr : World) : Prop where
  fs : FSAt wr A'
  fbe : A'.fb = fb
  clk : wr.cell? ⟨fb, 4, none⟩ = some (.int .i64 c)
  dp : PtrsAt wr DA ds.length ds
  lp : PtrsAt wr LA ls.length ls
  nodes : ∀ b, b ∈ ds ∨ b ∈ ls → IsNode wr b
  frm : Frm (fun b => b = fb ∨ b ∈ ds ∨ b ∈ ls) w wr

theorem keepT_setCell {w : World} {b i : Nat} {v : Value} {cs : Array Value} (hb : Blk w b 72 cs) : KeepT (· = 69) w (w.setCell ⟨b, i, none⟩ v) := by
  intro g cs' t fr ht hg
  have hne : g ≠ b := by
    rintro rfl
    unfold Blk at hb
    rw [hb] at hg
    injection hg with hg
    injection hg with _ e _
    subst e; cases ht
  exact (Below.heap_setCell w ⟨b, i, none⟩ v g hne).trans hg

theorem TickRel.store {w wr : World} {ds ls : List Nat} {fb : Nat} {DA LA : Option Addr} {c : Int} {A' : FSA} (h : TickRel w ds ls fb DA LA c A' wr) {b : Nat} (hb : b ∈ ds ∨ b ∈ ls) {i : Nat} {v : Value} {f : NodeR → NodeR} (T : Turns f i v)
    (hp : ∀ r, (f r).pad = r.pad ∧ (f r).plen = r.plen ∧ (f r).pcap = r.pcap ∧ (f r).pieces = r.pieces) : TickRel w ds ls fb DA LA c (A'.updB b f) (wr.setCell ⟨b, i, none⟩ v) := by
  obtain ⟨cs, hB, hs⟩ := h.nodes b hb
  have hne : b ≠ fb := by have := h.fbe; have h2 := h.fs.fs; rw [this] at h2; exact hB.ne_ h2 (by decide)
  refine ⟨h.fs.store' hB T hp, h.fbe, ?_, h.dp.keep (keepT_setCell hB), h.lp.keep (keepT_setCell hB), fun b' hb' => (h.nodes b' hb').setCell _ _ _, ?_⟩
  · rw [World.cell?_setCell_other _ _ _ _ (fun e => hne (congrArg Addr.block e))]; exact h.clk
  · exact h.frm.setCell (fun _ => .inr hb) v

theorem TickRel.drew {w wr : World} {ds ls : List Nat} {fb : Nat} {DA LA : Option Addr} {c : Int} {A' : FSA} (h : TickRel w ds ls fb DA LA c A' wr) : TickRel w ds ls fb DA LA c A' wr.drew :=
  ⟨h.fs.drew, h.fbe, h.clk, h.dp.keep (fun _ _ _ _ _ h => h), h.lp.keep (fun _ _ _ _ _ h => h), h.nodes, h.frm.drew⟩

theorem TickRel.node_cell {w wr : World} {ds ls : List Nat} {fb : Nat} {DA LA : Option Addr} {c : Int} {A' : FSA} (h : TickRel w ds ls fb DA LA c A' wr) {b : Nat} (hb : b ∈ ds ∨ b ∈ ls) :
    b ≠ fb ∧ (∃ v, wr.cell? ⟨b, 10, none⟩ = some v) ∧ (∃ v, wr.cell? ⟨b, 4, none⟩ = some v) ∧ (∀ i, wr.frozen? ⟨b, i, none⟩ = false) := by
  obtain ⟨cs, hB, hs⟩ := h.nodes b hb
  have hne : b ≠ fb := by have := h.fbe; have h2 := h.fs.fs; rw [this] at h2; exact hB.ne_ h2 (by decide)
  exact ⟨hne, ⟨cs[10], by rw [hB.cell]; simp [hs]⟩, ⟨cs[4], by rw [hB.cell]; simp [hs]⟩, hB.frozen⟩

set_option maxHeartbeats 1000000 in
theorem tick_any {w : World} {A : FSA} (h : FSAt w A) (hc0 : 0 ≤ A.clock) (hc1 : A.clock < 4611686018427387904) (DA LA : Option Addr) (dc lc : Nat) (ds ls : List Nat) (hd : PtrsAt w DA ds.length ds) (hl : PtrsAt w LA ls.length ls)
    (hdl : ds.length ≤ 1000) (hll : ls.length ≤ 1000) (hn : ∀ b, b ∈ ds ∨ b ∈ ls → IsNode w b) :
    Calls Try.prog 28 #[A.fp, .slice DA ds.length dc, .slice LA ls.length lc] w fun e w' => e = .returned (.tuple #[]) ∧ FSAt w' (A.tick ds ls) ∧ Frm (fun b => b = A.fb ∨ b ∈ ds ∨ b ∈ ls) w w' := by
  have hc := h.c
  have hf := h.f
  have R0 : TickRel w ds ls A.fb DA LA (A.clock + 1) { A with clock := A.clock + 1 } (w.setCell ⟨A.fb, 4, none⟩ (.int .i64 (A.clock + 1))) := by
    have hk : KeepT (· = 69) w (w.setCell ⟨A.fb, 4, none⟩ (.int .i64 (A.clock + 1))) := by
      intro g cs' t fr ht hg
      have hne : g ≠ A.fb := by
        rintro rfl
        have hb := h.fs
        unfold Blk at hb
        rw [hb] at hg
        injection hg with hg
        injection hg with _ e _
        subst e; cases ht
      exact (Below.heap_setCell w ⟨A.fb, 4, none⟩ _ g hne).trans hg
    refine ⟨h.counter rfl rfl rfl rfl, rfl, ?_, hd.keep hk, hl.keep hk, fun b hb => (hn b hb).setCell _ _ _, (Frm.refl _ _).setCell (fun _ => .inl rfl) _⟩
    exact World.cell?_setCell_same _ _ _ (h.c 4)
  have HR := Lib.hid R0
  clear R0 hd hl hn h
  unfold FSA.fp
  go_enter Try.func28, Try.ntmps28
  go_wp2_with fail
  go_loopw [7, 19] (fun d i wr => ∃ k : Nat, k ≤ ds.length ∧ i = .int .i64 k ∧ TickRel w ds ls A.fb DA LA (A.clock + 1) (FSA.tickD { A with clock := A.clock + 1 } (A.clock + 1) (ds.take k)) wr) (fun _ i _ => ds.length - (intOf i).toNat)
  case atStart => exact ⟨0, Nat.zero_le _, rfl, HR.out⟩
  case round =>
    obtain ⟨k, hk, rfl, hR⟩ := hrel
    by_cases hlt : k < ds.length
    · obtain ⟨g, o, b, hDA, hkb, hcell⟩ := hR.dp.at_ hlt
      have hmem : b ∈ ds ∨ b ∈ ls := .inl (List.mem_of_getElem? hkb)
      obtain ⟨hne, ⟨v10, h10⟩, ⟨v4, h4⟩, hfz⟩ := hR.node_cell hmem
      have hclk := hR.clk
      have HR2 := Lib.hid hR
      have Hkb := Lib.hid hkb
      clear hR hkb
      subst hDA
      go_wp2_with fail
      go_region
      go_wp2_with fail
      go_roundw
      case rel => exact ⟨k + 1, by omega, by go_num, by rw [tickD_snoc _ _ _ _ _ Hkb.out]; exact ((HR2.out.store hmem (turns_change _) (fun _ => ⟨rfl, rfl, rfl, rfl⟩)).store hmem (turns_time _) (fun _ => ⟨rfl, rfl, rfl, rfl⟩)).drew⟩
      case measure => simp [intOf]; omega
    · obtain rfl : k = ds.length := by omega
      rw [List.take_length] at hR
      have HR1 := Lib.hid hR
      clear hR hk hlt HR
      go_wp2_with fail
      go_loopw [9, 42] (fun d i wr => ∃ k : Nat, k ≤ ls.length ∧ i = .int .i64 k ∧ TickRel w ds ls A.fb DA LA (A.clock + 1) ((FSA.tickD { A with clock := A.clock + 1 } (A.clock + 1) ds).tickL (A.clock + 1) (ls.take k)) wr) (fun _ i _ => ls.length - (intOf i).toNat)
      case atStart => exact ⟨0, Nat.zero_le _, rfl, HR1.out⟩
      case round =>
        obtain ⟨k, hk, rfl, hR⟩ := hrel
        by_cases hlt : k < ls.length
        · obtain ⟨g, o, b, hDA, hkb, hcell⟩ := hR.lp.at_ hlt
          have hmem : b ∈ ds ∨ b ∈ ls := .inr (List.mem_of_getElem? hkb)
          obtain ⟨hne, ⟨v10, h10⟩, ⟨v4, h4⟩, hfz⟩ := hR.node_cell hmem
          have hclk := hR.clk
          have HR2 := Lib.hid hR
          have Hkb := Lib.hid hkb
          clear hR hkb HR1
          subst hDA
          go_wp2_with fail
          go_roundw
          case rel => exact ⟨k + 1, by omega, by go_num, by rw [tickL_snoc _ _ _ _ _ Hkb.out]; exact HR2.out.store hmem (turns_change _) (fun _ => ⟨rfl, rfl, rfl, rfl⟩)⟩
          case measure => simp [intOf]; omega
        · obtain rfl : k = ls.length := by omega
          rw [List.take_length] at hR
          have HR2 := Lib.hid hR
          clear hR hk hlt HR1
          go_wp2_with fail
          go_end0
          exact ⟨rfl, HR2.out.fs, HR2.out.frm⟩
end Go.Proofs.Ytccfimgpbmkpiaa
