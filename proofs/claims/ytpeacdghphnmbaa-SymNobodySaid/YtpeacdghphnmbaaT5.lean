/- The two symbol tables side by side, played the same texts; slices of texts as the statements read them. -/
import Derived.Test.YtpeacdghphnmbaaT4
namespace Go.Proofs.Ytpeacdghphnmbaa
open Go.RowKit Go.Maps

/-- The program's table (blocks m, m + 1) and the document's (block b) have the texts L, in blocks of their own from lo on. -/
def Two (w : World) (m b lo : Nat) (L : List ByteArray) (rbT : Option Nat) (svT : Value) (D : DataW Unit) (n : Nat) (rbR : Option Nat) (svR : Value) : Prop :=
  Tab w m L rbT svT D n ∧ RTab w b L rbR svR ∧ lo ≤ m ∧ lo ≤ b ∧ b ≠ m ∧ b ≠ m + 1 ∧ (∀ g, rbT = some g → lo ≤ g ∧ g ≠ b) ∧ (∀ g, rbR = some g → lo ≤ g ∧ g ≠ m ∧ g ≠ m + 1 ∧ rbT ≠ some g)

def TwoE (w : World) (m b lo : Nat) (L : List ByteArray) : Prop := ∃ rbT svT D n rbR svR, Two w m b lo L rbT svT D n rbR svR

theorem RTab.lt {w : World} {b : Nat} {L : List ByteArray} {rb : Option Nat} {sv : Value} (h : RTab w b L rb sv) : ∀ g, rb = some g → g < w.heap.size ∧ b < g := fun g hg =>
  ⟨(h.row.lt g (h.blk.trans hg)).2, (h.row.lt g (h.blk.trans hg)).1⟩
theorem Tab.lt {w : World} {b : Nat} {L : List ByteArray} {rb : Option Nat} {sv : Value} {D : DataW Unit} {n : Nat} (h : Tab w b L rb sv D n) : ∀ g, rb = some g → g < w.heap.size ∧ b + 2 ≤ g := fun g hg =>
  ⟨(h.row.lt g (h.blk.trans hg)).2, (h.row.lt g (h.blk.trans hg)).1⟩

theorem two_step {w w1 : World} {m b lo : Nat} {L : List ByteArray} {rbT : Option Nat} {svT : Value} {D : DataW Unit} {n : Nat} {rbR : Option Nat} {svR : Value} {s : ByteArray} (h : Two w m b lo L rbT svT D n rbR svR)
    (h1 : ∃ rb' sv' D' n', Tab w1 m (pL L s) rb' sv' D' n' ∧ (rb' = rbT ∨ ∃ g, rb' = some g ∧ w.heap.size ≤ g) ∧ Fr (Foot m rbT) w w1) (hlo : lo ≤ w.heap.size) :
    RTab w1 b L rbR svR ∧ Below lo w w1 ∧ lo ≤ w1.heap.size ∧ ∀ w2, (∃ rb' sv', RTab w2 b (pL L s) rb' sv' ∧ (rb' = rbR ∨ ∃ g, rb' = some g ∧ w1.heap.size ≤ g) ∧ Fr (RFoot b rbR) w1 w2) → TwoE w2 m b lo (pL L s) ∧ Below lo w1 w2 ∧ lo ≤ w2.heap.size := by
  obtain ⟨hT, hR, hm, hb, d1, d2, hgT, hgR⟩ := h
  obtain ⟨rb', sv', D', n', hT1, hr1, hF1⟩ := h1
  have hR1 : RTab w1 b L rbR svR := hR.kept hF1 (fun k hk hf => by
    rcases hk with rfl | hk
    · rcases hf with h | h | h
      · exact d1 h
      · exact d2 h
      · exact (hgT k h).2 rfl
    · obtain ⟨_, e1, e2, e3⟩ := hgR k hk
      rcases hf with h | h | h
      · exact e1 h
      · exact e2 h
      · exact e3 h)
  have hs1 := hF1.size
  refine ⟨hR1, hF1.below hlo (fun k hk => ?_), by omega, fun w2 h2 => ?_⟩
  · rcases hk with rfl | rfl | hk
    · exact hm
    · omega
    · exact (hgT k hk).1
  obtain ⟨rb2, sv2, hR2, hr2, hF2⟩ := h2
  have hs2 := hF2.size
  have hTb := lt_of_block hT1.cells
  have hgT' : ∀ g, rb' = some g → lo ≤ g ∧ g ≠ b := fun g hg => by
    rcases hr1 with h | ⟨g', h, h'⟩
    · exact hgT g (h ▸ hg)
    · rw [h] at hg; cases hg
      have := lt_of_block hR.cells
      exact ⟨by omega, by omega⟩
  have hRT : ∀ g, rbR = some g → rb' ≠ some g := fun g hg e => by
    rcases hr1 with h | ⟨g', h, h'⟩
    · exact (hgR g hg).2.2.2 (h ▸ e)
    · rw [h] at e; cases e
      have := (hR.lt g hg).1
      omega
  have hT2 : Tab w2 m (pL L s) rb' sv' D' n' := hT1.kept hF2 (fun k hk hf => by
    rcases hf with rfl | hf
    · rcases hk with h | h | h
      · exact d1 h
      · exact d2 h
      · exact (hgT' k h).2 rfl
    · obtain ⟨_, e1, e2, e3⟩ := hgR k hf
      rcases hk with h | h | h
      · exact e1 h
      · exact e2 h
      · exact hRT k hf h)
  refine ⟨⟨rb', sv', D', n', rb2, sv2, hT2, hR2, hm, hb, d1, d2, hgT', fun g hg => ?_⟩, hF2.below (by omega) (fun k hk => ?_), by omega⟩
  · rcases hr2 with h | ⟨g', h, h'⟩
    · obtain ⟨e0, e1, e2, e3⟩ := hgR g (h ▸ hg)
      exact ⟨e0, e1, e2, hRT g (h ▸ hg)⟩
    · rw [h] at hg; cases hg
      exact ⟨by omega, by omega, by omega, fun e => by have := (hT1.lt _ e).1; omega⟩
  · rcases hk with rfl | hk
    · exact hb
    · exact (hgR k hk).1

theorem bytes_lt : ∀ (x y : List UInt8), Op.bytesLess x y = decide (x < y)
  | [], [] => by simp [Op.bytesLess]
  | _ :: _, [] => by simp [Op.bytesLess]
  | [], _ :: _ => by simp [Op.bytesLess]
  | a :: x, b :: y => by
    rw [Op.bytesLess, bytes_lt x y]
    simp only [List.cons_lt_cons_iff]
    by_cases h1 : a < b <;> by_cases h2 : a = b <;> by_cases h3 : x < y <;> simp [h1, h2, h3]
theorem less_irr (L : List ByteArray) (a : Int) : lessB L a a = false := by
  unfold lessB
  rw [bytes_lt]
  simp
theorem less_asym {L : List ByteArray} {a b : Int} (h : lessB L a b = true) : lessB L b a = false := by
  unfold lessB at h ⊢
  rw [bytes_lt] at h ⊢
  simp only [Bool.and_eq_true, decide_eq_true_eq] at h
  have := List.lt_asymm h.2.2
  simp [this]
theorem less_at {m n : Nat} {L : List ByteArray} {rb : Option Nat} {sv : Value} {D : DataW Unit} {a b : Int} {r : Bool} (hr : lessB L a b = r) (w : World) (h : Tab w m L rb sv D n) :
    Calls Try.prog 13 #[.pointer (some ⟨m + 1, 0, none⟩), .int .i64 a, .int .i64 b] w fun e w' => e = .returned (.bool r) ∧ w = w' := hr ▸ less_any m n L rb sv D a b w h
theorem rless_at {m : Nat} {L : List ByteArray} {rb : Option Nat} {sv : Value} {a b : Int} {r : Bool} (hr : lessB L a b = r) (w : World) (h : RTab w m L rb sv) :
    Calls Try.prog 14 #[.pointer (some ⟨m, 0, none⟩), .int .i64 a, .int .i64 b] w fun e w' => e = .returned (.bool r) ∧ w = w' := hr ▸ rless_any m L rb sv a b w h

/-- v is a slice of the texts l in w, in old memory. -/
def Strs (w : World) (v : Value) (l : List ByteArray) : Prop :=
  ∃ a cap, v = .slice a l.length cap ∧ l.length ≤ cap ∧ cap * 16 ≤ 140737488351232 ∧ (∀ s ∈ l, s.size ≤ maxLen) ∧ (l = [] ∨ ∃ b off, a = some ⟨b, off, none⟩ ∧ b < w.heap.size ∧ ∀ j, j < l.length → w.cell? ⟨b, off + j, none⟩ = some (.string (nth l j)))

/-- what a list of texts makes of a table -/
def plays (l : List ByteArray) (k : Nat) : List ByteArray := (l.take k).foldl pL []
theorem plays_zero (l : List ByteArray) : plays l 0 = [] := by simp [plays]
theorem plays_succ {l : List ByteArray} {k : Nat} (h : k < l.length) : plays l (k + 1) = pL (plays l k) (nth l k) := by
  unfold plays
  rw [List.take_succ_eq_append_getElem h, List.foldl_append]
  simp [nth, h]
theorem nth_wide {l : List ByteArray} (h : ∀ s ∈ l, s.size ≤ maxLen) (k : Nat) : (nth l k).size ≤ maxLen := by
  unfold nth
  rw [List.getD]
  cases e : l[k]? with
  | none => simp [maxLen, ByteArray.size]
  | some s => exact h s (List.mem_of_getElem? e)

theorem two_start {w w1 w2 : World} {B : Nat} (hT : Tab w1 w.heap.size [] none (.slice none 0 0) (.map []) 0) (hs : w1.heap.size = w.heap.size + 2) (hB : w1.heap.size + 1 = B)
    (hb : Below B (w1.alloc (.cells #[.slice none 0 0] 26)) w2) : Two w2 w.heap.size (w.heap.size + 2) w.heap.size [] none (.slice none 0 0) (.map []) 0 none (.slice none 0 0) := by
  have hT' : Tab (w1.alloc (.cells #[.slice none 0 0] 26)) w.heap.size [] none (.slice none 0 0) (.map []) 0 := hT.kept (S := fun _ => False) (Fr.of_alloc _ _ _) (fun _ _ h => h)
  have hF : Fr (fun _ => False) (w1.alloc (.cells #[.slice none 0 0] 26)) w2 := Fr.of_below (by simpa [hB] using hb)
  refine ⟨hT'.kept hF (fun _ _ h => h), ?_, by omega, by omega, by omega, by omega, by simp, by simp⟩
  have hR : RTab (w1.alloc (.cells #[.slice none 0 0] 26)) (w.heap.size + 2) [] none (.slice none 0 0) := by
    refine ⟨?_, World.ownsRow_nil _ _ _ _, rfl, by simp⟩
    rw [← hs]; exact heap_alloc_new _ _
  exact hR.kept hF (fun _ _ h => h)

set_option maxRecDepth 100000 in
set_option maxHeartbeats 1000000 in
theorem less_walk (l : List ByteArray) (x y : Int) (v : Value) (w : World) (hv : Strs w v l) :
    Calls Try.prog 3 #[v, .int .i64 x, .int .i64 y] w fun e w' => e = .returned (.bool true) ∧ Below w.heap.size w w' := by
  obtain ⟨a, cap, rfl, hlc, hreach, hwide, hcells⟩ := hv
  have HW := Lib.hid hwide
  clear hwide
  go_enter Try.func3, Try.ntmps3
  go_wp2_with fail
  refine (new_any w).mono ?_
  rintro e w1 ⟨rfl, hT1, hB1, hs1⟩
  go_wp2_with fail
  refine (alive_any _).mono ?_
  rintro e w2 ⟨rfl, hB2⟩
  have H2 := Lib.hid (two_start (B := w.heap.size + 3) hT1 hs1 (by omega) (by simpa [hs1] using hB2))
  have HB : Hid (Below w.heap.size w w2) := (hB1.alloc (by omega) _).trans (hB2.mono (by simp; omega))
  clear hT1 hB2 hB1
  rcases hcells with rfl | ⟨b, off, rfl, hb, hcell⟩
  · go_wp2_with fail
    go_loopw [25] (fun i wr => ∃ k : Nat, k ≤ 0 ∧ i = .int .i64 k ∧ TwoE wr w.heap.size (w.heap.size + 2) w.heap.size (plays [] k) ∧ Below w.heap.size w wr ∧ w.heap.size ≤ wr.heap.size) (fun i _ => 0 - (intOf i).toNat)
    case atStart => exact ⟨0, Nat.zero_le _, rfl, ⟨_, _, _, _, _, _, H2.out⟩, HB.out, HB.out.size⟩
    case round =>
      obtain ⟨k, hk, rfl, ⟨rbT, svT, D, n, rbR, svR, hTwo⟩, hBw, hsz⟩ := hrel
      obtain ⟨P, hP⟩ : ∃ P, P = plays [] k := ⟨_, rfl⟩
      rw [← hP] at hTwo
      have HP := Lib.hid hP
      have HTwo := Lib.hid hTwo
      have HBw := Lib.hid hBw
      clear hP hTwo hBw
      obtain rfl : k = 0 := by omega
      · have hT := Lib.hid HTwo.out.1
        have hR := Lib.hid HTwo.out.2.1
        have hxx := less_irr P x
        cases hA : lessB P x y with
        | true =>
          have hB := less_asym hA
          go_wp2_with fail
          refine (less_at hA _ hT.out).mono ?_
          rintro e w' ⟨rfl, rfl⟩
          go_wp2_with fail
          refine (rless_at hA _ hR.out).mono ?_
          rintro e w' ⟨rfl, rfl⟩
          go_wp2_with fail
          refine (less_at hA _ hT.out).mono ?_
          rintro e w' ⟨rfl, rfl⟩
          go_wp2_with fail
          refine (less_at hB _ hT.out).mono ?_
          rintro e w' ⟨rfl, rfl⟩
          go_wp2_with fail
          refine (less_at hxx _ hT.out).mono ?_
          rintro e w' ⟨rfl, rfl⟩
          go_wp2_with fail
          go_ret
          exact ⟨rfl, HBw.out⟩
        | false =>
          go_wp2_with fail
          refine (less_at hA _ hT.out).mono ?_
          rintro e w' ⟨rfl, rfl⟩
          go_wp2_with fail
          refine (rless_at hA _ hR.out).mono ?_
          rintro e w' ⟨rfl, rfl⟩
          go_wp2_with fail
          refine (less_at hA _ hT.out).mono ?_
          rintro e w' ⟨rfl, rfl⟩
          go_wp2_with fail
          refine (less_at hxx _ hT.out).mono ?_
          rintro e w' ⟨rfl, rfl⟩
          go_wp2_with fail
          go_ret
          exact ⟨rfl, HBw.out⟩
  · by_cases h0 : l.length ≤ 2000
    · go_wp2_with fail
      go_loopw [25] (fun i wr => ∃ k : Nat, k ≤ l.length ∧ i = .int .i64 k ∧ TwoE wr w.heap.size (w.heap.size + 2) w.heap.size (plays l k) ∧ Below w.heap.size w wr ∧ w.heap.size ≤ wr.heap.size) (fun i _ => l.length - (intOf i).toNat)
      case atStart => exact ⟨0, Nat.zero_le _, rfl, ⟨_, _, _, _, _, _, H2.out⟩, HB.out, HB.out.size⟩
      case round =>
        obtain ⟨k, hk, rfl, ⟨rbT, svT, D, n, rbR, svR, hTwo⟩, hBw, hsz⟩ := hrel
        obtain ⟨P, hP⟩ : ∃ P, P = plays l k := ⟨_, rfl⟩
        rw [← hP] at hTwo
        have HP := Lib.hid hP
        have HTwo := Lib.hid hTwo
        have HBw := Lib.hid hBw
        clear hP hTwo hBw
        by_cases hlt : k < l.length
        · have hcx : wr.cell? ⟨b, off + k, none⟩ = some (.string (nth l k)) := (HBw.out.cell (p := ⟨b, off + k, none⟩) hb).trans (hcell k (by omega))
          go_wp2_with fail
          refine (put_any _ _ _ _ _ _ _ _ HTwo.out.1 (nth_wide HW.out k)).mono ?_
          rintro e w3 ⟨rfl, h3⟩
          have H3 := Lib.hid (two_step HTwo.out h3 hsz)
          clear h3
          go_wp2_with fail
          refine (rput_any _ _ _ _ _ _ H3.out.1).mono ?_
          rintro e w4 ⟨rfl, h4⟩
          have H4 := Lib.hid (H3.out.2.2.2 _ h4)
          clear h4
          go_wp2_with fail
          go_roundw
          case rel => exact ⟨k + 1, by omega, by go_num, by rw [plays_succ (by omega), ← HP.out]; exact H4.out.1, (HBw.out.trans H3.out.2.1).trans H4.out.2.1, H4.out.2.2⟩
          case measure => simp [intOf]; omega
        · have hT := Lib.hid HTwo.out.1
          have hR := Lib.hid HTwo.out.2.1
          have hxx := less_irr P x
          cases hA : lessB P x y with
          | true =>
            have hB := less_asym hA
            go_wp2_with fail
            refine (less_at hA _ hT.out).mono ?_
            rintro e w' ⟨rfl, rfl⟩
            go_wp2_with fail
            refine (rless_at hA _ hR.out).mono ?_
            rintro e w' ⟨rfl, rfl⟩
            go_wp2_with fail
            refine (less_at hA _ hT.out).mono ?_
            rintro e w' ⟨rfl, rfl⟩
            go_wp2_with fail
            refine (less_at hB _ hT.out).mono ?_
            rintro e w' ⟨rfl, rfl⟩
            go_wp2_with fail
            refine (less_at hxx _ hT.out).mono ?_
            rintro e w' ⟨rfl, rfl⟩
            go_wp2_with fail
            go_ret
            exact ⟨rfl, HBw.out⟩
          | false =>
            go_wp2_with fail
            refine (less_at hA _ hT.out).mono ?_
            rintro e w' ⟨rfl, rfl⟩
            go_wp2_with fail
            refine (rless_at hA _ hR.out).mono ?_
            rintro e w' ⟨rfl, rfl⟩
            go_wp2_with fail
            refine (less_at hA _ hT.out).mono ?_
            rintro e w' ⟨rfl, rfl⟩
            go_wp2_with fail
            refine (less_at hxx _ hT.out).mono ?_
            rintro e w' ⟨rfl, rfl⟩
            go_wp2_with fail
            go_ret
            exact ⟨rfl, HBw.out⟩
    · have h0' : 2000 ≤ l.length := by omega
      go_wp2_with fail
      go_loopw [25] (fun i wr => ∃ k : Nat, k ≤ 2000 ∧ i = .int .i64 k ∧ TwoE wr w.heap.size (w.heap.size + 2) w.heap.size (plays l k) ∧ Below w.heap.size w wr ∧ w.heap.size ≤ wr.heap.size) (fun i _ => 2000 - (intOf i).toNat)
      case atStart => exact ⟨0, Nat.zero_le _, rfl, ⟨_, _, _, _, _, _, H2.out⟩, HB.out, HB.out.size⟩
      case round =>
        obtain ⟨k, hk, rfl, ⟨rbT, svT, D, n, rbR, svR, hTwo⟩, hBw, hsz⟩ := hrel
        obtain ⟨P, hP⟩ : ∃ P, P = plays l k := ⟨_, rfl⟩
        rw [← hP] at hTwo
        have HP := Lib.hid hP
        have HTwo := Lib.hid hTwo
        have HBw := Lib.hid hBw
        clear hP hTwo hBw
        by_cases hlt : k < 2000
        · have hcx : wr.cell? ⟨b, off + k, none⟩ = some (.string (nth l k)) := (HBw.out.cell (p := ⟨b, off + k, none⟩) hb).trans (hcell k (by omega))
          go_wp2_with fail
          refine (put_any _ _ _ _ _ _ _ _ HTwo.out.1 (nth_wide HW.out k)).mono ?_
          rintro e w3 ⟨rfl, h3⟩
          have H3 := Lib.hid (two_step HTwo.out h3 hsz)
          clear h3
          go_wp2_with fail
          refine (rput_any _ _ _ _ _ _ H3.out.1).mono ?_
          rintro e w4 ⟨rfl, h4⟩
          have H4 := Lib.hid (H3.out.2.2.2 _ h4)
          clear h4
          go_wp2_with fail
          go_roundw
          case rel => exact ⟨k + 1, by omega, by go_num, by rw [plays_succ (by omega), ← HP.out]; exact H4.out.1, (HBw.out.trans H3.out.2.1).trans H4.out.2.1, H4.out.2.2⟩
          case measure => simp [intOf]; omega
        · have hT := Lib.hid HTwo.out.1
          have hR := Lib.hid HTwo.out.2.1
          have hxx := less_irr P x
          cases hA : lessB P x y with
          | true =>
            have hB := less_asym hA
            go_wp2_with fail
            refine (less_at hA _ hT.out).mono ?_
            rintro e w' ⟨rfl, rfl⟩
            go_wp2_with fail
            refine (rless_at hA _ hR.out).mono ?_
            rintro e w' ⟨rfl, rfl⟩
            go_wp2_with fail
            refine (less_at hA _ hT.out).mono ?_
            rintro e w' ⟨rfl, rfl⟩
            go_wp2_with fail
            refine (less_at hB _ hT.out).mono ?_
            rintro e w' ⟨rfl, rfl⟩
            go_wp2_with fail
            refine (less_at hxx _ hT.out).mono ?_
            rintro e w' ⟨rfl, rfl⟩
            go_wp2_with fail
            go_ret
            exact ⟨rfl, HBw.out⟩
          | false =>
            go_wp2_with fail
            refine (less_at hA _ hT.out).mono ?_
            rintro e w' ⟨rfl, rfl⟩
            go_wp2_with fail
            refine (rless_at hA _ hR.out).mono ?_
            rintro e w' ⟨rfl, rfl⟩
            go_wp2_with fail
            refine (less_at hA _ hT.out).mono ?_
            rintro e w' ⟨rfl, rfl⟩
            go_wp2_with fail
            refine (less_at hxx _ hT.out).mono ?_
            rintro e w' ⟨rfl, rfl⟩
            go_wp2_with fail
            go_ret
            exact ⟨rfl, HBw.out⟩

end Go.Proofs.Ytpeacdghphnmbaa
