/- The walk of SymFull. -/
import Derived.Test.YtpeacdghphnmbaaT6
import Derived.Deep.QuietTactic
import Derived.BigQuiet
namespace Go.Proofs.Ytpeacdghphnmbaa
open Go.RowKit Go.Maps

/-- the key with a number -/
def key (i : Nat) : ByteArray := ⟨#[UInt8.ofNat (i / 256), UInt8.ofNat i, 7]⟩
def fullL (k : Nat) : List ByteArray := (List.range k).map key

theorem full_foot {m B : Nat} {rb : Option Nat} (hB : m + 2 ≤ B) (hg : ∀ g, rb = some g → g ≠ B) : ¬ Foot m rb B := by
  rintro (h | h | h)
  · omega
  · omega
  · exact hg B h rfl

theorem full_start {w w1 w2 : World} (hT : Tab w1 w.heap.size [] none (.slice none 0 0) (.map []) 0)
    (hb : Below w1.heap.size w1 w2) : Tab w2 w.heap.size [] none (.slice none 0 0) (.map []) 0 :=
  hT.kept (S := fun _ => False) (Fr.of_below hb) (fun _ _ h => h)

def FullE (w : World) (m B : Nat) (L : List ByteArray) : Prop := ∃ rb sv D n, Tab w m L rb sv D n ∧ (∀ g, rb = some g → g ≠ B)

theorem key_conv {wr : World} {B k : Nat} {x y z : Int} (h : wr.heap[B]? = some (.cells #[.int .u8 x, .int .u8 y, .int .u8 z] 5 (0, 0))) :
    (((wr.setCell ⟨B, 0, none⟩ (.int .u8 ((k : Int) / 256))).setCell ⟨B, 1, none⟩ (.int .u8 ((k : Int) % 256))).setCell ⟨B, 2, none⟩ (.int .u8 7)).heap[B]? = some (.cells #[.int .u8 ((k : Int) / 256), .int .u8 ((k : Int) % 256), .int .u8 7] 5 (0, 0)) := by
  have hlt := lt_of_block h
  have h' : wr.heap[B] = .cells #[.int .u8 x, .int .u8 y, .int .u8 z] 5 (0, 0) := by simpa [Array.getElem?_eq_getElem hlt] using h
  simp [World.setCell, Array.getElem_modify_self, h', hlt]

theorem key_frame (wr : World) (B : Nat) (x y : Value) : Fr (fun j => j = B) wr (((wr.setCell ⟨B, 0, none⟩ x).setCell ⟨B, 1, none⟩ y).setCell ⟨B, 2, none⟩ (.int .u8 7)) :=
  ((Fr.of_setCell _ (by rfl) _).trans (Fr.of_setCell _ (by rfl) _)).trans (Fr.of_setCell _ (by rfl) _)

theorem key_str {w : World} {B k : Nat} (hk : k < 16384) (h : w.heap[B]? = some (.cells #[.int .u8 ((k : Int) / 256), .int .u8 ((k : Int) % 256), .int .u8 7] 5 (0, 0))) :
    (convert 41 9 (.slice (some ⟨B, 0, none⟩) 3 3)).run Try.prog w = .ok (.string (key k)) w := by
  rw [run_convert_bytes_arg w 41 5 Try.underlying41 Try.underlying5 B 0 3 3 [(k : Int) / 256, (k : Int) % 256, 7] rfl (fun i hi => ?_) 9 Try.underlying9]
  · have e1 : ((k : Int) / 256).toNat = k / 256 := by omega
    have e2 : ((k : Int) % 256).toNat = k % 256 := by omega
    have e3 : UInt8.ofNat (k % 256) = UInt8.ofNat k := by
      apply UInt8.toNat_inj.1
      simp [UInt8.toNat_ofNat']
    have e4 : strOfNums [(k : Int) / 256, (k : Int) % 256, 7] = key k := by
      unfold strOfNums key
      simp only [List.map_cons, List.map_nil, e1, e2, e3]
      rfl
    rw [e4]
  · match i, hi with
    | 0, _ => simp [World.cell?, h]
    | 1, _ => simp [World.cell?, h]
    | 2, _ => simp [World.cell?, h]

theorem fullL_succ (k : Nat) : fullL (k + 1) = fullL k ++ [key k] := by simp [fullL, List.range_succ]
theorem key_inj {i j : Nat} (hi : i < 16384) (hj : j < 16384) (h : key i = key j) : i = j := by
  unfold key at h
  simp only [ByteArray.mk.injEq, Array.mk.injEq, List.cons.injEq] at h
  have h1 := congrArg UInt8.toNat h.1
  have h2 := congrArg UInt8.toNat h.2.1
  simp only [UInt8.toNat_ofNat'] at h1 h2
  omega
theorem fullL_new {k : Nat} (hk : k < 16384) : key k ∉ fullL k := by
  intro h
  obtain ⟨j, hj, e⟩ := List.mem_map.1 h
  have := List.mem_range.1 hj
  have := key_inj (by omega) hk e
  omega
theorem fullL_len (k : Nat) : (fullL k).length = k := by simp [fullL]
theorem pL_full {k : Nat} (hk : k < 16384) : pL (fullL k) (key k) = fullL (k + 1) := by
  rw [pL, hasB_no.2 (fullL_new hk), if_neg (by simp), fullL_len, if_neg (by omega), fullL_succ]
theorem pE_full {k : Nat} (hk : k < 16384) : (pE (fullL k) (key k) : Int) = 0 := by
  rw [pE, hasB_no.2 (fullL_new hk), if_neg (by simp), fullL_len, if_neg (by omega)]; rfl
theorem key_wide (k : Nat) : (key k).size ≤ maxLen := by unfold maxLen; show 3 ≤ _; decide

def Got (m B k : Nat) (w : World) (i : Value) (wr : World) : Prop :=
  i = .int .i64 k ∧ FullE wr m B (fullL k) ∧ (∃ x y z : Int, wr.heap[B]? = some (.cells #[.int .u8 x, .int .u8 y, .int .u8 z] 5 (0, 0))) ∧ Below w.heap.size w wr ∧ w.heap.size ≤ wr.heap.size

theorem full_round {w wr w2 w3 : World} {B k : Nat} {x y z : Int} {rb : Option Nat} {sv : Value} {D : DataW Unit} {n : Nat} (hwB : w.heap.size + 2 ≤ B) (hT : Tab wr w.heap.size (fullL k) rb sv D n) (hsz : w.heap.size ≤ wr.heap.size) (hBw : Below w.heap.size w wr) (hblk : wr.heap[B]? = some (.cells #[.int .u8 x, .int .u8 y, .int .u8 z] 5 (0, 0)))
    (hF0 : Fr (fun j => j = B) wr w2) (hblk2 : ∃ x y z : Int, w2.heap[B]? = some (.cells #[.int .u8 x, .int .u8 y, .int .u8 z] 5 (0, 0))) (hg : ∀ g, rb = some g → g ≠ B)
    (h3 : ∃ rb' sv' D' n', Tab w3 w.heap.size (fullL (k + 1)) rb' sv' D' n' ∧ (rb' = rb ∨ ∃ g, rb' = some g ∧ w2.heap.size ≤ g) ∧ Fr (Foot w.heap.size rb) w2 w3) (hk : k < 16384) :
    ∃ k', k' ≤ 16384 ∧ Got w.heap.size B k' w (.int .i64 ((k : Int) + 1)) w3 := by
  obtain ⟨rb', sv', D', n', hT3, hr3, hF3⟩ := h3
  obtain ⟨x2, y2, z2, hb2⟩ := hblk2
  have hBs := lt_of_block hb2
  have hs0 := hF0.size
  have hs3 := hF3.size
  refine ⟨k + 1, by omega, by simp, ⟨rb', sv', D', n', hT3, fun g hg' => ?_⟩, ⟨x2, y2, z2, ?_⟩, ?_, by omega⟩
  · rcases hr3 with h | ⟨g', h, h'⟩
    · exact hg g (h ▸ hg')
    · rw [h] at hg'; cases hg'; omega
  · rw [hF3.block B hBs (full_foot hwB hg)]; exact hb2
  · refine (hBw.trans (hF0.below hsz (fun j hj => by omega))).trans (hF3.below (by omega) (fun j hj => ?_))
    rcases hj with h | h | h
    · omega
    · omega
    · have := (hT.lt j h).2; omega

theorem idx_full {i : Nat} : ∀ {k : Nat}, i < k → k ≤ 16384 → idx (fullL k) (key i) = i := by
  intro k
  induction k with
  | zero => intro h; omega
  | succ k ih =>
    intro h hk
    rw [fullL_succ]
    by_cases e : i = k
    · subst e; rw [idx_snoc_new (fullL_new (by omega)), fullL_len]
    · have hm : key i ∈ fullL k := List.mem_map.2 ⟨i, List.mem_range.2 (by omega), rfl⟩
      rw [idx_snoc_old hm, ih (by omega) (by omega)]

theorem full_old {s : ByteArray} {F : List ByteArray} {k : Nat} (hF : F = fullL k) (hk : k = 16384) (h : s ∈ F) : ∃ i, i < 16384 ∧ pL F s = F ∧ (pN F s : Int) = (i : Nat) ∧ (pE F s : Int) = 0 ∧ (num F s : Int) = (i : Nat) ∧ s.size = 3 ∧ s = key i := by
  have h' := h
  rw [hF] at h'
  obtain ⟨i, hi, e⟩ := List.mem_map.1 h'
  have hi' := List.mem_range.1 hi
  have e2 : idx F s = i := by rw [← e, hF]; exact idx_full hi' (Nat.le_of_eq hk)
  refine ⟨i, by omega, ?_, ?_, ?_, ?_, ?_, e.symm⟩
  · rw [pL, hasB_iff.2 h, if_pos rfl]
  · rw [pN, hasB_iff.2 h, if_pos rfl, e2]
  · rw [pE, hasB_iff.2 h, if_pos rfl]; rfl
  · rw [num_yes h, e2]
  · rw [← e]; rfl

theorem full_new {s : ByteArray} {F : List ByteArray} {k : Nat} (hF : F = fullL k) (hk : k = 16384) (h : s ∉ F) : pL F s = F ∧ (pN F s : Int) = 0 ∧ (pE F s : Int) = 18 ∧ (F.length : Int) = 16384 := by
  have hl : F.length = k := by rw [hF]; exact fullL_len k
  have hl' : 16384 ≤ F.length := by omega
  refine ⟨?_, ?_, ?_, by omega⟩
  · rw [pL, hasB_no.2 h, if_neg (by simp), if_pos hl']
  · rw [pN, hasB_no.2 h, if_neg (by simp), if_pos hl']; rfl
  · rw [pE, hasB_no.2 h, if_neg (by simp), if_pos hl']; rfl

theorem get_at {m n : Nat} {L : List ByteArray} {rb : Option Nat} {sv : Value} {D : DataW Unit} {s : ByteArray} {i : Int} {b : Bool} (hi : (num L s : Int) = i) (hb : hasB L s = b) (w : World) (h : Tab w m L rb sv D n) (hs : s.size ≤ maxLen) :
    Calls Try.prog 15 #[.pointer (some ⟨m + 1, 0, none⟩), .string s] w fun e w' => e = .returned (.tuple #[.int .i64 i, .bool b]) ∧ w = w' := hi ▸ hb ▸ get_any m n L rb sv D s w h hs
theorem len_at {m n : Nat} {L : List ByteArray} {rb : Option Nat} {sv : Value} {D : DataW Unit} {i : Int} (hi : (L.length : Int) = i) (w : World) (h : Tab w m L rb sv D n) :
    Calls Try.prog 17 #[.pointer (some ⟨m + 1, 0, none⟩)] w fun e w' => e = .returned (.int .i64 i) ∧ w = w' := hi ▸ len_any m n L rb sv D w h
theorem full_below {w w2 w3 : World} {L : List ByteArray} {rb : Option Nat} {sv : Value} {D : DataW Unit} {n : Nat} (hT : Tab w2 w.heap.size L rb sv D n) (hsz : w.heap.size ≤ w2.heap.size) (hF : Fr (Foot w.heap.size rb) w2 w3) : Below w.heap.size w2 w3 :=
  hF.below hsz (fun j hj => by
    rcases hj with h | h | h
    · omega
    · omega
    · have := (hT.lt j h).2; omega)

theorem or_small (a b : Nat) (ha : a < 16777216) (hb : b < 16777216) : bits .or .i64 (a : Int) (b : Int) = ((a ||| b : Nat) : Int) := by
  have hx : a ||| b < 2 ^ 24 := Nat.or_lt_two_pow (by omega) (by omega)
  show IntKind.i64.wrap ((BitVec.ofInt 64 (a : Int) ||| BitVec.ofInt 64 (b : Int)).toNat : Int) = _
  have e1 : (BitVec.ofInt 64 (a : Int)).toNat = a := by simp; omega
  have e2 : (BitVec.ofInt 64 (b : Int)).toNat = b := by simp; omega
  rw [BitVec.toNat_or, e1, e2]
  generalize a ||| b = c at hx
  rw [IntKind.wrap_i64]
  omega

theorem key_or {s : ByteArray} {i : Nat} (hi : i < 16384) (hs : s = key i) {h0 : 0 < s.size} {h1 : 1 < s.size} :
    ((i : Int) == bits BinOp.or IntKind.i64 (wrap64 (wrap64 ↑(s[0]'h0).toNat * 256)) (wrap64 ↑(s[1]'h1).toNat)) = true := by
  subst hs
  have e0 : ((key i)[0]'h0).toNat = i / 256 := by
    show (UInt8.ofNat (i / 256)).toNat = _
    rw [UInt8.toNat_ofNat']; omega
  have e1 : ((key i)[1]'h1).toNat = i % 256 := by
    show (UInt8.ofNat i).toNat = _
    rw [UInt8.toNat_ofNat']
  rw [e0, e1]
  have w1 : wrap64 (wrap64 ((i / 256 : Nat) : Int) * 256) = ((i / 256 * 256 : Nat) : Int) := by unfold wrap64; omega
  have w2 : wrap64 ((i % 256 : Nat) : Int) = ((i % 256 : Nat) : Int) := by unfold wrap64; omega
  rw [w1, w2, or_small _ _ (by omega) (by omega)]
  have e3 : i / 256 * 256 ||| i % 256 = i := by
    rw [show i / 256 * 256 = (i / 256) <<< 8 from by rw [Nat.shiftLeft_eq], ← Nat.shiftLeft_add_eq_or_of_lt (by omega), Nat.shiftLeft_eq]
    omega
  rw [e3]
  simp

theorem full_drewN {B : Nat} {w w3 : World} (h : Below B w w3) (n : Nat) : Below B w (w3.drewN n) :=
  ⟨h.os, h.tape, h.output, h.size, h.block⟩

set_option maxRecDepth 100000 in
set_option maxHeartbeats 1000000 in
theorem full_walk (s : ByteArray) (w : World) (hs : s.size ≤ maxLen) (_ : s.size ≤ 140737488351232) :
    Calls Try.prog 5 #[.string s] w fun e w' => e = .returned (.bool true) ∧ Below w.heap.size w w' := by
  go_enter Try.func5, Try.ntmps5
  go_wp2_with fail
  refine (new_any w).mono ?_
  rintro e w1 ⟨rfl, hT1, hB1, hs1⟩
  go_wp2_with fail
  refine (alive_any _).mono ?_
  rintro e w2 ⟨rfl, hB2⟩
  have HB : Hid (Below w.heap.size w w2) := hB1.trans (hB2.mono (by omega))
  have HT := Lib.hid (full_start hT1 hB2)
  have hw2 : w.heap.size + 2 ≤ w2.heap.size := by have := hB2.size; omega
  clear hT1 hB2 hB1 hs1
  go_wp2_with fail
  obtain ⟨B, hB⟩ : ∃ B, B = w2.heap.size := ⟨_, rfl⟩
  rw [← hB]
  have hwB : w.heap.size + 2 ≤ B := by omega
  have HBe := Lib.hid hB
  clear hB hw2
  go_loopw [20] (fun i wr => ∃ k : Nat, k ≤ 16384 ∧ Got w.heap.size B k w i wr) (fun i _ => 16384 - (intOf i).toNat)
  case atStart => exact ⟨0, by omega, rfl, ⟨_, _, _, _, (HT.out.kept (S := fun _ => False) (Fr.of_alloc _ _ _) (fun _ _ h => h)), by simp⟩, ⟨0, 0, 0, by rw [HBe.out]; exact heap_alloc_new _ _⟩, HB.out.alloc HB.out.size _, by simp; exact Nat.le_trans HB.out.size (Nat.le_succ _)⟩
  case round =>
    obtain ⟨k, hk, hgot⟩ := hrel
    obtain ⟨rfl, ⟨rb, sv, D, n, hT, hg⟩, ⟨x, y, z, hblk⟩, hBw, hsz⟩ := hgot
    have HTw := Lib.hid hT
    have HBw := Lib.hid hBw
    have Hg := Lib.hid hg
    clear hT hBw hg
    have b0 : wr.cell? ⟨B, 0, none⟩ = some (.int .u8 x) := by simp [World.cell?, hblk]
    have b1 : wr.cell? ⟨B, 1, none⟩ = some (.int .u8 y) := by simp [World.cell?, hblk]
    have b2 : wr.cell? ⟨B, 2, none⟩ = some (.int .u8 z) := by simp [World.cell?, hblk]
    have f0 : wr.frozen? ⟨B, 0, none⟩ = false := by simp [World.frozen?, hblk]
    have f1 : wr.frozen? ⟨B, 1, none⟩ = false := by simp [World.frozen?, hblk]
    have f2 : wr.frozen? ⟨B, 2, none⟩ = false := by simp [World.frozen?, hblk]
    have Hblk := Lib.hid hblk
    clear hblk
    by_cases hlt : k < 16384
    · have hblk2 := key_conv (k := k) Hblk.out
      have hconv := key_str hlt hblk2
      have Hblk2 := Lib.hid hblk2
      clear hblk2
      go_wp2_with fail
      refine (put_at _ _ _ _ _ _ _ _ _ _ _ (HTw.out.kept (S := fun j => j = B) (key_frame _ _ _ _) (fun j hj => by rintro rfl; exact full_foot hwB Hg.out hj)) (key_wide k) (pL_full hlt) rfl (pE_full hlt)).mono ?_
      rintro e w3 ⟨rfl, h3⟩
      have H3 := Lib.hid h3
      clear h3 hconv b0 b1 b2 f0 f1 f2
      go_wp2_with fail
      go_roundw
      case rel => exact full_round hwB HTw.out hsz HBw.out Hblk.out (key_frame _ _ _ _) ⟨_, _, _, Hblk2.out⟩ Hg.out H3.out hlt
      case measure => simp [intOf]; omega
    · have hkk : k = 16384 := by omega
      obtain ⟨F, hF⟩ : ∃ F, F = fullL k := ⟨_, rfl⟩
      rw [← hF] at HTw
      by_cases hin : s ∈ F
      · obtain ⟨i, hi, h1⟩ := full_old hF hkk hin
        have H1 := Lib.hid h1
        clear h1
        have hgi := Lib.hid (hasB_iff.2 hin)
        clear hF hkk hin
        go_wp2_with fail
        refine (put_at _ _ _ F i 0 _ _ _ _ _ HTw.out hs H1.out.1 H1.out.2.1 H1.out.2.2.1).mono ?_
        rintro e w3 ⟨rfl, rb3, sv3, D3, n3, hT3, hr3, hF3⟩
        have HB3 := Lib.hid (HBw.out.trans (full_below HTw.out hsz hF3))
        have HT3 := Lib.hid hT3
        clear hT3 hr3 hF3
        go_wp2_with fail
        refine (get_at H1.out.2.2.2.1 hgi.out _ HT3.out hs).mono ?_
        rintro e w' ⟨rfl, rfl⟩
        have hz3 : s.size = 3 := H1.out.2.2.2.2.1
        go_wp2_with fail
        go_quiet (fail)
        go_wp2_with fail
        rw [key_or hi H1.out.2.2.2.2.2]
        go_ret
        exact ⟨rfl, full_drewN HB3.out _⟩
      · have H1 := Lib.hid (full_new hF hkk hin)
        have hgn := Lib.hid (hasB_no.2 hin)
        have hnn := Lib.hid (show (num F s : Int) = 0 from by rw [num_no hin]; rfl)
        clear hF hkk hin
        go_wp2_with fail
        refine (put_at _ _ _ F 0 18 _ _ _ _ _ HTw.out hs H1.out.1 H1.out.2.1 H1.out.2.2.1).mono ?_
        rintro e w3 ⟨rfl, rb3, sv3, D3, n3, hT3, hr3, hF3⟩
        have HB3 := Lib.hid (HBw.out.trans (full_below HTw.out hsz hF3))
        have HT3 := Lib.hid hT3
        clear hT3 hr3 hF3
        go_wp2_with fail
        refine (get_at hnn.out hgn.out _ HT3.out hs).mono ?_
        rintro e w' ⟨rfl, rfl⟩
        go_wp2_with fail
        refine (len_at H1.out.2.2.2 _ HT3.out).mono ?_
        rintro e w' ⟨rfl, rfl⟩
        go_wp2_with fail
        go_ret
        exact ⟨rfl, HB3.out⟩

end Go.Proofs.Ytpeacdghphnmbaa
