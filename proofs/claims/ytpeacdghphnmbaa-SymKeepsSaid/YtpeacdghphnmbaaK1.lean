/- The walk of SymKeeps. -/
import Derived.Test.YtpeacdghphnmbaaT6
import Derived.Deep.QuietTactic
import Derived.BigQuiet
namespace Go.Proofs.Ytpeacdghphnmbaa
open Go.RowKit Go.Maps

theorem Try.info3 : (Try.prog.info? 3).map (fun i => (i.zero, i.size, i.bytes)) = some (some (.int .i64 0), 1, 8) := by kernel_rfl

/-- the number that text i gets -/
def mI (l : List ByteArray) (i : Nat) : Nat := pN (plays l i) (nth l i)
def mRow (l : List ByteArray) (k : Nat) : List Value := (List.range k).map fun i => Value.int .i64 (mI l i : Nat)

theorem mRow_succ (l : List ByteArray) (k : Nat) : mRow l (k + 1) = mRow l k ++ [.int .i64 (mI l k : Nat)] := by simp [mRow, List.range_succ]
theorem mRow_len (l : List ByteArray) (k : Nat) : (mRow l k).length = k := by simp [mRow]
theorem mRow_get (l : List ByteArray) {i k : Nat} (h : i < k) : (mRow l k)[i]? = some (.int .i64 (mI l i : Nat)) := by simp [mRow, h]

theorem pL_len (L : List ByteArray) (s : ByteArray) : (pL L s).length ≤ L.length + 1 := by
  unfold pL
  split
  · omega
  · split
    · omega
    · simp
theorem plays_len (l : List ByteArray) : ∀ k, (plays l k).length ≤ k
  | 0 => by simp [plays]
  | k + 1 => by
    by_cases h : k < l.length
    · rw [plays_succ h]
      have := pL_len (plays l k) (nth l k)
      have := plays_len l k
      omega
    · have : plays l (k + 1) = plays l k := by
        unfold plays
        rw [List.take_of_length_le (by omega), List.take_of_length_le (by omega)]
      rw [this]
      have := plays_len l k
      omega
theorem pE_few {L : List ByteArray} {s : ByteArray} (h : L.length < 16384) : (pE L s : Int) = 0 := by
  unfold pE
  split
  · rfl
  · rw [if_neg (by omega)]; rfl

/-- What is put stays, with its number. -/
theorem pL_keeps {L : List ByteArray} {s t : ByteArray} (h : t ∈ L) : t ∈ pL L s ∧ idx (pL L s) t = idx L t := by
  unfold pL
  split
  · exact ⟨h, rfl⟩
  · split
    · exact ⟨h, rfl⟩
    · exact ⟨by simp [h], idx_snoc_old h⟩
theorem pL_has {L : List ByteArray} {s : ByteArray} (hf : L.length < 16384) : s ∈ pL L s ∧ idx (pL L s) s = pN L s := by
  by_cases h : s ∈ L
  · rw [pL, pN, hasB_iff.2 h]; exact ⟨h, rfl⟩
  · rw [pL, pN, hasB_no.2 h, if_neg (by simp), if_neg (by omega), if_neg (by simp), if_neg (by omega)]
    exact ⟨by simp, idx_snoc_new h⟩
theorem plays_keeps {l : List ByteArray} {t : ByteArray} {i : Nat} : ∀ {k : Nat}, i ≤ k → k ≤ l.length → t ∈ plays l i → t ∈ plays l k ∧ idx (plays l k) t = idx (plays l i) t := by
  intro k
  induction k with
  | zero => intro h _ ht; obtain rfl : i = 0 := by omega
            exact ⟨ht, rfl⟩
  | succ k ih =>
    intro h hk ht
    by_cases e : i = k + 1
    · subst e; exact ⟨ht, rfl⟩
    · obtain ⟨h1, h2⟩ := ih (by omega) (by omega) ht
      rw [plays_succ (by omega)]
      obtain ⟨h3, h4⟩ := pL_keeps (s := nth l k) h1
      exact ⟨h3, h4.trans h2⟩
/-- Text i is in the table, with the number that it got. -/
theorem plays_at {l : List ByteArray} {i k : Nat} (hi : i < k) (hk : k ≤ l.length) (hf : k ≤ 2000) : nth l i ∈ plays l k ∧ idx (plays l k) (nth l i) = mI l i := by
  have hl := plays_len l i
  obtain ⟨h1, h2⟩ := pL_has (L := plays l i) (s := nth l i) (by omega)
  rw [← plays_succ (by omega)] at h1 h2
  obtain ⟨h3, h4⟩ := plays_keeps (l := l) (i := i + 1) (k := k) (by omega) hk h1
  exact ⟨h3, h4.trans h2⟩
theorem nth_idx {L : List ByteArray} {s : ByteArray} (h : s ∈ L) : nth L (idx L s) = s ∧ idx L s < L.length := by
  induction L with
  | nil => simp at h
  | cons x r ih =>
    by_cases e : x = s
    · simp [idx, e, nth]
    · have hr : s ∈ r := by simpa [Ne.symm e] using h
      obtain ⟨h1, h2⟩ := ih hr
      refine ⟨?_, ?_⟩
      · simpa [idx, e, nth] using h1
      · simp [idx, e]; exact h2

theorem num_at {l : List ByteArray} {i k : Nat} (hi : i < k) (hk : k ≤ l.length) (hf : k ≤ 2000) : (num (plays l k) (nth l i) : Int) = (mI l i : Nat) ∧ hasB (plays l k) (nth l i) = true := by
  obtain ⟨h1, h2⟩ := plays_at hi hk hf
  exact ⟨by rw [num_yes h1, h2], hasB_iff.2 h1⟩
theorem txt_at {l : List ByteArray} {i k : Nat} (hi : i < k) (hk : k ≤ l.length) (hf : k ≤ 2000) : txt (plays l k) ((mI l i : Nat) : Int) = nth l i ∧ isTxt (plays l k) ((mI l i : Nat) : Int) = true := by
  obtain ⟨h1, h2⟩ := plays_at hi hk hf
  obtain ⟨h3, h4⟩ := nth_idx h1
  rw [h2] at h3 h4
  exact ⟨by unfold txt; rw [if_pos (by omega)]; exact h3, by unfold isTxt; simp; omega⟩
theorem met_iff {l : List ByteArray} {i j k : Nat} (hi : i < k) (hj : j < k) (hk : k ≤ l.length) (hf : k ≤ 2000) : mI l i = mI l j ↔ nth l i = nth l j := by
  obtain ⟨h1, h2⟩ := plays_at hi hk hf
  obtain ⟨h3, h4⟩ := plays_at hj hk hf
  constructor
  · intro e
    rw [← (nth_idx h1).1, ← (nth_idx h3).1, h2, h4, e]
  · intro e
    rw [← h2, ← h4, e]

theorem get_at {m n : Nat} {L : List ByteArray} {rb : Option Nat} {sv : Value} {D : DataW Unit} {s : ByteArray} {i : Int} {b : Bool} (hi : (num L s : Int) = i) (hb : hasB L s = b) (w : World) (h : Tab w m L rb sv D n) (hs : s.size ≤ maxLen) :
    Calls Try.prog 15 #[.pointer (some ⟨m + 1, 0, none⟩), .string s] w fun e w' => e = .returned (.tuple #[.int .i64 i, .bool b]) ∧ w = w' := hi ▸ hb ▸ get_any m n L rb sv D s w h hs
theorem text_at {m n : Nat} {L : List ByteArray} {rb : Option Nat} {sv : Value} {D : DataW Unit} {s : ByteArray} {i : Int} {b : Bool} (hi : txt L i = s) (hb : isTxt L i = b) (w : World) (h : Tab w m L rb sv D n) :
    Calls Try.prog 16 #[.pointer (some ⟨m + 1, 0, none⟩), .int .i64 i] w fun e w' => e = .returned (.tuple #[.string s, .bool b]) ∧ w = w' := hi ▸ hb ▸ text_any m n L rb sv D i w h
theorem Tab.drewN {w : World} {m : Nat} {L : List ByteArray} {rb : Option Nat} {sv : Value} {D : DataW Unit} {n : Nat} (h : Tab w m L rb sv D n) (q : Nat) : Tab (w.drewN q) m L rb sv D n :=
  ⟨h.cells, h.map, h.few, h.is, h.row, h.blk, h.len, h.nodup, h.wide⟩

/-- The table has the first k texts, and v owns their numbers, in a row of its own. -/
def Keep (w : World) (m lo : Nat) (l : List ByteArray) (k : Nat) (v : Value) (wr : World) : Prop :=
  ∃ rb sv D n, Tab wr m (plays l k) rb sv D n ∧ wr.ownsRow (m + 2) 3 1 v k (mRow l k) ∧ (∀ g, rb = some g → v.ownBlock ≠ some g) ∧ lo ≤ m ∧ Below lo w wr ∧ lo ≤ wr.heap.size

theorem keep_start {w w1 w2 : World} (hT : Tab w1 w.heap.size [] none (.slice none 0 0) (.map []) 0) (hB1 : Below w.heap.size w w1) (hb : Below w1.heap.size w1 w2) (l : List ByteArray) :
    Keep w w.heap.size w.heap.size l 0 (.slice none 0 0) w2 :=
  ⟨none, _, _, _, by rw [plays_zero]; exact hT.kept (S := fun _ => False) (Fr.of_below hb) (fun _ _ h => h), World.ownsRow_nil _ _ _ _, by simp, Nat.le_refl _, hB1.trans (hb.mono hB1.size), Nat.le_trans hB1.size hb.size⟩

theorem keep_put {w wr w1 : World} {m lo : Nat} {l : List ByteArray} {k : Nat} {v : Value} {rb : Option Nat} {sv : Value} {D : DataW Unit} {n : Nat} (hT : Tab wr m (plays l k) rb sv D n) (hrow : wr.ownsRow (m + 2) 3 1 v k (mRow l k)) (hd : ∀ g, rb = some g → v.ownBlock ≠ some g) (hlo : lo ≤ m) (hB : Below lo w wr) (hs : lo ≤ wr.heap.size)
    (h1 : ∃ rb' sv' D' n', Tab w1 m (pL (plays l k) (nth l k)) rb' sv' D' n' ∧ (rb' = rb ∨ ∃ g, rb' = some g ∧ wr.heap.size ≤ g) ∧ Fr (Foot m rb) wr w1) :
    w1.ownsRow (m + 2) 3 1 v k (mRow l k) ∧ m + 2 ≤ w1.heap.size ∧ ∀ v' w2 o, k < l.length → w2.ownsRow (m + 2) 3 1 v' (k + 1) (mRow l k ++ [.int .i64 (mI l k : Nat)]) → (w1.alloc o).grownBy w2 v.ownBlock → (v'.ownBlock = v.ownBlock ∨ v'.ownBlock = some (w1.heap.size + 1)) → Keep w m lo l (k + 1) v' w2 := by
  obtain ⟨rb', sv', D', n', hT1, hr1, hF1⟩ := h1
  have hnot : ∀ g, v.ownBlock = some g → ¬ Foot m rb g := fun g hg hf => by
    have := (hrow.lt g hg).1
    rcases hf with h | h | h
    · omega
    · omega
    · exact hd g h hg
  have hrow1 : w1.ownsRow (m + 2) 3 1 v k (mRow l k) := by
    refine ⟨hrow.1, ?_⟩
    rcases hrow.2 with h2 | ⟨g, cap, cur, h1, h2, h3, r⟩
    · exact .inl h2
    · refine .inr ⟨g, cap, cur, h1, h2, ?_, r⟩
      rw [hF1.block g (lt_of_block h3) (hnot g (by rw [h1]; rfl))]; exact h3
  have hc := lt_of_block hT1.cells
  have hs1 := hF1.size
  refine ⟨hrow1, by omega, fun v' w2 o hk hrow2 hg2 hat => ?_⟩
  have hs2 := hg2.size
  simp at hs2
  have hd1 : ∀ g, rb' = some g → v.ownBlock ≠ some g := fun g hg e => by
    rcases hr1 with h | ⟨g', h, h'⟩
    · exact hd g (h ▸ hg) e
    · rw [h] at hg; cases hg
      have := (hrow.lt _ e).2; omega
  have hF2 : Fr (fun j => v.ownBlock = some j) w1 w2 := (Fr.of_alloc _ _ _).trans (Fr.of_grown hg2 (fun j hj => hj))
  refine ⟨rb', sv', D', n', ?_, by rw [mRow_succ]; exact hrow2, fun g hg e => ?_, hlo, ?_, by omega⟩
  · rw [plays_succ hk]
    refine hT1.kept hF2 (fun j hj e => ?_)
    have := (hrow.lt j e).1
    rcases hj with h | h | h
    · omega
    · omega
    · exact hd1 j h e
  · have := (hT1.lt g hg).1
    rcases hat with h | h
    · exact hd1 g hg (h ▸ e)
    · rw [h] at e; cases e; omega
  · refine (hB.trans (hF1.below hs (fun j hj => ?_))).trans (hF2.below (by omega) (fun j hj => ?_))
    · rcases hj with h | h | h
      · omega
      · omega
      · have := (hT.lt j h).2; omega
    · have := (hrow.lt j hj).1; omega
theorem same_met {a b : Nat} {s t : ByteArray} (h : a = b ↔ s = t) : ∃ r : Bool, ((a : Int) == (b : Int)) = r ∧ (s.toList == t.toList) = r := by
  by_cases e : s = t
  · exact ⟨true, by simp [h.2 e], by simp [e]⟩
  · exact ⟨false, by simp; exact fun h2 => e (h.1 (by omega)), str_ne e⟩
theorem keep_end {B : Nat} {w w3 : World} (h : Below B w w3) (n : Nat) : Below B w (w3.drewN n) := ⟨h.os, h.tape, h.output, h.size, h.block⟩
theorem row_cell {w : World} {B e n : Nat} {v : Value} {xs : List Value} (h : w.ownsRow B e 1 v n xs) (hn : 0 < n) : ∃ g cap, v = .slice (some ⟨g, 0, none⟩) n cap ∧ ∀ j u, xs[j]? = some u → w.cell? ⟨g, j, none⟩ = some u := by
  rcases h.2 with ⟨_, h2⟩ | ⟨g, cap, cur, h1, _⟩
  · omega
  · refine ⟨g, cap, h1, fun j u hu => ?_⟩
    have := h.cells (g := g) (by rw [h1]; rfl) j u hu
    rwa [show (⟨g, 0, none⟩ : Addr).add j = ⟨g, j, none⟩ from by unfold Addr.add; split <;> simp_all] at this

set_option maxRecDepth 100000 in
set_option maxHeartbeats 2000000 in
theorem keeps_walk (l : List ByteArray) (v : Value) (w : World) (hv : Strs w v l) :
    Calls Try.prog 4 #[v] w fun e w' => e = .returned (.bool true) ∧ Below w.heap.size w w' := by
  obtain ⟨a, cap, rfl, hlc, hreach, hwide, hcells⟩ := hv
  have HW := Lib.hid hwide
  clear hwide
  obtain ⟨i0, hi, hz0, hz1, hz2⟩ := info_parts Try.info3
  go_enter Try.func4, Try.ntmps4
  go_wp2_with fail
  refine (new_any w).mono ?_
  rintro e w1 ⟨rfl, hT1, hB1, hs1⟩
  go_wp2_with fail
  refine (alive_any _).mono ?_
  rintro e w2 ⟨rfl, hB2⟩
  have HK := Lib.hid (keep_start hT1 hB1 hB2 l)
  clear hT1 hB2 hB1
  rcases hcells with rfl | ⟨b, off, rfl, hb, hcell⟩
  · obtain ⟨rb, sv, D, n, hT, hrow, hd, hlo, hB, hsz⟩ := HK.out
    have HB := Lib.hid hB
    clear hT hrow hd hlo hB
    go_wp2_with fail
    go_loopw [29] (fun i wr => i = .int .i64 0 ∧ wr = w2) (fun _ _ => 0)
    case atStart => exact ⟨rfl, rfl⟩
    case round =>
      obtain ⟨rfl, rfl⟩ := hrel
      go_wp2_with fail
      go_loopw [48] (fun i wq => i = .int .i64 0 ∧ wq = wr) (fun _ _ => 0)
      case atStart => exact ⟨rfl, rfl⟩
      case round =>
        obtain ⟨rfl, rfl⟩ := hrel
        go_wp2_with fail
        go_ret
        exact ⟨rfl, HB.out⟩
  · by_cases h0 : l.length ≤ 500
    · go_wp2_with fail
      go_loopw [4, 29] (fun v i wr => ∃ k : Nat, k ≤ l.length ∧ i = .int .i64 k ∧ Keep w w.heap.size w.heap.size l k v wr) (fun _ i _ => l.length - (intOf i).toNat)
      case atStart => exact ⟨0, Nat.zero_le _, rfl, HK.out⟩
      case round =>
        obtain ⟨k, hk, rfl, rb, sv, D, n, hT, hrow, hd, hlo, hB, hsz⟩ := hrel
        have HT := Lib.hid hT
        have HR := Lib.hid hrow
        have HD := Lib.hid hd
        have HB := Lib.hid hB
        clear hT hrow hd hB hlo
        by_cases hlt : k < l.length
        · have hcx : wr.cell? ⟨b, off + k, none⟩ = some (.string (nth l k)) := (HB.out.cell (p := ⟨b, off + k, none⟩) hb).trans (hcell k (by omega))
          go_wp2_with fail
          refine (put_at _ _ _ _ (mI l k : Nat) 0 _ _ _ _ _ HT.out (nth_wide HW.out k) rfl rfl (pE_few (Nat.lt_of_le_of_lt (plays_len l k) (by omega)))).mono ?_
          rintro e w3 ⟨rfl, h3⟩
          have H3 := Lib.hid (keep_put HT.out HR.out HD.out (Nat.le_refl _) HB.out hsz h3)
          clear h3
          have hrow3 := H3.out.1
          have hsz3 := H3.out.2.1
          obtain ⟨vc, va, rfl⟩ := row_slice hrow3
          go_wp2_with (at_builtin; refine wpList_append_own_at _ rfl _ _ 35 rfl (w.heap.size + 2) 3 i0 (.int .i64 0) 1 8 Try.underlying35 hi hz0 hz1 hz2 rfl (by decide) (.slice va k vc) k (mRow l k) rfl (hrow3.alloc _) ⟨w3.heap.size, 0, none⟩ 1 1 [.int .i64 (mI l k : Nat)] rfl rfl (cell_one_new _ _ _) (ints_oneCell .i64 [(mI l k : Int)]) (by unfold maxLen; omega) (by omega) (by simp; omega) ?_; intro v' w4 hown4 hgrow4 _ hat4)
          go_roundw
          case rel => exact ⟨k + 1, by omega, by go_num, H3.out.2.2 _ _ _ (by omega) hown4 hgrow4 (by simpa using hat4)⟩
          case measure => simp [intOf]; omega
        · have hkk : l.length ≤ k := by omega
          obtain ⟨kk, rfl⟩ : ∃ kk, kk = k := ⟨_, rfl⟩
          have HNum := Lib.hid (fun i (h : i < l.length) => num_at (l := l) (i := i) (k := kk) (by omega) (by omega) (by omega))
          have HTxt := Lib.hid (fun i (h : i < l.length) => txt_at (l := l) (i := i) (k := kk) (by omega) (by omega) (by omega))
          have HMet := Lib.hid (fun i j (h : i < l.length) (h' : j < l.length) => met_iff (l := l) (i := i) (j := j) (k := kk) (by omega) (by omega) (by omega) (by omega))
          generalize plays l kk = P at HT HNum HTxt
          obtain ⟨vc, va, rfl⟩ := row_slice HR.out
          go_wp2_with fail
          go_loopw [48] (fun i wq => ∃ k : Nat, k ≤ l.length ∧ i = .int .i64 k ∧ ∃ nq, wq = wr.drewN nq) (fun i _ => l.length - (intOf i).toNat)
          case atStart => exact ⟨0, Nat.zero_le _, rfl, 0, rfl⟩
          case round =>
            obtain ⟨k, hk, rfl, nq, rfl⟩ := hrel
            by_cases hlt : k < l.length
            · obtain ⟨g, cap', hvs, hcr⟩ := row_cell HR.out (by omega)
              cases hvs
              have HCR := Lib.hid hcr
              clear hcr
              have hcx : wr.cell? ⟨b, off + k, none⟩ = some (.string (nth l k)) := (HB.out.cell (p := ⟨b, off + k, none⟩) hb).trans (hcell k (by omega))
              have hmx : wr.cell? ⟨g, k, none⟩ = some (.int .i64 (mI l k : Nat)) := HCR.out k _ (mRow_get l (by omega))
              go_wp2_with fail
              refine (get_at (HNum.out k hlt).1 (HNum.out k hlt).2 _ (HT.out.drewN nq) (nth_wide HW.out k)).mono ?_
              rintro e w' ⟨rfl, rfl⟩
              go_wp2_with fail
              refine (text_at (HTxt.out k hlt).1 (HTxt.out k hlt).2 _ (HT.out.drewN nq)).mono ?_
              rintro e w' ⟨rfl, rfl⟩
              go_wp2_with fail
              go_loopw [92] (fun i wq => ∃ j : Nat, j ≤ k ∧ i = .int .i64 j ∧ ∃ nq, wq = wr.drewN nq) (fun i _ => k - (intOf i).toNat)
              case atStart => exact ⟨0, Nat.zero_le _, rfl, nq, rfl⟩
              case round =>
                obtain ⟨j, hj, rfl, nq2, rfl⟩ := hrel
                clear hcx hmx
                have hcx : wr.cell? ⟨b, off + k, none⟩ = some (.string (nth l k)) := (HB.out.cell (p := ⟨b, off + k, none⟩) hb).trans (hcell k (by omega))
                have hmx : wr.cell? ⟨g, k, none⟩ = some (.int .i64 (mI l k : Nat)) := HCR.out k _ (mRow_get l (by omega))
                by_cases hjk : j < k
                · have hcj : wr.cell? ⟨b, off + j, none⟩ = some (.string (nth l j)) := (HB.out.cell (p := ⟨b, off + j, none⟩) hb).trans (hcell j (by omega))
                  have hmj : wr.cell? ⟨g, j, none⟩ = some (.int .i64 (mI l j : Nat)) := HCR.out j _ (mRow_get l (by omega))
                  have ik : ((k : Int)) < (l.length : Int) := by omega
                  have ij : ((j : Int)) < (l.length : Int) := by omega
                  have ik2 : ((k : Int)) < (kk : Int) := by omega
                  have ij2 : ((j : Int)) < (kk : Int) := by omega
                  obtain ⟨bb, hb1, hb2⟩ := same_met (HMet.out k j hlt (by omega))
                  cases bb
                  all_goals
                    go_wp2_with fail
                    go_quiet (fail)
                    go_wp2_with fail
                    go_roundw
                    case rel => exact ⟨j + 1, by omega, by go_num, _, rfl⟩
                    case measure => simp [intOf]; omega
                · obtain rfl : j = k := by omega
                  go_wp2_with fail
                  go_roundw
                  case rel => exact ⟨j + 1, by omega, by go_num, _, rfl⟩
                  case measure => simp [intOf]; omega
            · go_wp2_with fail
              go_ret
              exact ⟨rfl, keep_end HB.out _⟩
    · have h0q : 500 ≤ l.length := by omega
      go_wp2_with fail
      go_loopw [4, 29] (fun v i wr => ∃ k : Nat, k ≤ 500 ∧ i = .int .i64 k ∧ Keep w w.heap.size w.heap.size l k v wr) (fun _ i _ => 500 - (intOf i).toNat)
      case atStart => exact ⟨0, Nat.zero_le _, rfl, HK.out⟩
      case round =>
        obtain ⟨k, hk, rfl, rb, sv, D, n, hT, hrow, hd, hlo, hB, hsz⟩ := hrel
        have HT := Lib.hid hT
        have HR := Lib.hid hrow
        have HD := Lib.hid hd
        have HB := Lib.hid hB
        clear hT hrow hd hB hlo
        by_cases hlt : k < 500
        · have hcx : wr.cell? ⟨b, off + k, none⟩ = some (.string (nth l k)) := (HB.out.cell (p := ⟨b, off + k, none⟩) hb).trans (hcell k (by omega))
          go_wp2_with fail
          refine (put_at _ _ _ _ (mI l k : Nat) 0 _ _ _ _ _ HT.out (nth_wide HW.out k) rfl rfl (pE_few (Nat.lt_of_le_of_lt (plays_len l k) (by omega)))).mono ?_
          rintro e w3 ⟨rfl, h3⟩
          have H3 := Lib.hid (keep_put HT.out HR.out HD.out (Nat.le_refl _) HB.out hsz h3)
          clear h3
          have hrow3 := H3.out.1
          have hsz3 := H3.out.2.1
          obtain ⟨vc, va, rfl⟩ := row_slice hrow3
          go_wp2_with (at_builtin; refine wpList_append_own_at _ rfl _ _ 35 rfl (w.heap.size + 2) 3 i0 (.int .i64 0) 1 8 Try.underlying35 hi hz0 hz1 hz2 rfl (by decide) (.slice va k vc) k (mRow l k) rfl (hrow3.alloc _) ⟨w3.heap.size, 0, none⟩ 1 1 [.int .i64 (mI l k : Nat)] rfl rfl (cell_one_new _ _ _) (ints_oneCell .i64 [(mI l k : Int)]) (by unfold maxLen; omega) (by omega) (by simp; omega) ?_; intro v' w4 hown4 hgrow4 _ hat4)
          go_roundw
          case rel => exact ⟨k + 1, by omega, by go_num, H3.out.2.2 _ _ _ (by omega) hown4 hgrow4 (by simpa using hat4)⟩
          case measure => simp [intOf]; omega
        · have hkk : 500 ≤ k := by omega
          obtain ⟨kk, rfl⟩ : ∃ kk, kk = k := ⟨_, rfl⟩
          have HNum := Lib.hid (fun i (h : i < 500) => num_at (l := l) (i := i) (k := kk) (by omega) (by omega) (by omega))
          have HTxt := Lib.hid (fun i (h : i < 500) => txt_at (l := l) (i := i) (k := kk) (by omega) (by omega) (by omega))
          have HMet := Lib.hid (fun i j (h : i < 500) (h' : j < 500) => met_iff (l := l) (i := i) (j := j) (k := kk) (by omega) (by omega) (by omega) (by omega))
          generalize plays l kk = P at HT HNum HTxt
          obtain ⟨vc, va, rfl⟩ := row_slice HR.out
          go_wp2_with fail
          go_loopw [48] (fun i wq => ∃ k : Nat, k ≤ 500 ∧ i = .int .i64 k ∧ ∃ nq, wq = wr.drewN nq) (fun i _ => 500 - (intOf i).toNat)
          case atStart => exact ⟨0, Nat.zero_le _, rfl, 0, rfl⟩
          case round =>
            obtain ⟨k, hk, rfl, nq, rfl⟩ := hrel
            by_cases hlt : k < 500
            · obtain ⟨g, cap', hvs, hcr⟩ := row_cell HR.out (by omega)
              cases hvs
              have HCR := Lib.hid hcr
              clear hcr
              have hcx : wr.cell? ⟨b, off + k, none⟩ = some (.string (nth l k)) := (HB.out.cell (p := ⟨b, off + k, none⟩) hb).trans (hcell k (by omega))
              have hmx : wr.cell? ⟨g, k, none⟩ = some (.int .i64 (mI l k : Nat)) := HCR.out k _ (mRow_get l (by omega))
              go_wp2_with fail
              refine (get_at (HNum.out k hlt).1 (HNum.out k hlt).2 _ (HT.out.drewN nq) (nth_wide HW.out k)).mono ?_
              rintro e w' ⟨rfl, rfl⟩
              go_wp2_with fail
              refine (text_at (HTxt.out k hlt).1 (HTxt.out k hlt).2 _ (HT.out.drewN nq)).mono ?_
              rintro e w' ⟨rfl, rfl⟩
              go_wp2_with fail
              go_loopw [92] (fun i wq => ∃ j : Nat, j ≤ k ∧ i = .int .i64 j ∧ ∃ nq, wq = wr.drewN nq) (fun i _ => k - (intOf i).toNat)
              case atStart => exact ⟨0, Nat.zero_le _, rfl, nq, rfl⟩
              case round =>
                obtain ⟨j, hj, rfl, nq2, rfl⟩ := hrel
                clear hcx hmx
                have hcx : wr.cell? ⟨b, off + k, none⟩ = some (.string (nth l k)) := (HB.out.cell (p := ⟨b, off + k, none⟩) hb).trans (hcell k (by omega))
                have hmx : wr.cell? ⟨g, k, none⟩ = some (.int .i64 (mI l k : Nat)) := HCR.out k _ (mRow_get l (by omega))
                by_cases hjk : j < k
                · have hcj : wr.cell? ⟨b, off + j, none⟩ = some (.string (nth l j)) := (HB.out.cell (p := ⟨b, off + j, none⟩) hb).trans (hcell j (by omega))
                  have hmj : wr.cell? ⟨g, j, none⟩ = some (.int .i64 (mI l j : Nat)) := HCR.out j _ (mRow_get l (by omega))
                  have ik : ((k : Int)) < (500 : Int) := by omega
                  have ij : ((j : Int)) < (500 : Int) := by omega
                  have ik2 : ((k : Int)) < (kk : Int) := by omega
                  have ij2 : ((j : Int)) < (kk : Int) := by omega
                  obtain ⟨bb, hb1, hb2⟩ := same_met (HMet.out k j hlt (by omega))
                  cases bb
                  all_goals
                    go_wp2_with fail
                    go_quiet (fail)
                    go_wp2_with fail
                    go_roundw
                    case rel => exact ⟨j + 1, by omega, by go_num, _, rfl⟩
                    case measure => simp [intOf]; omega
                · obtain rfl : j = k := by omega
                  go_wp2_with fail
                  go_roundw
                  case rel => exact ⟨j + 1, by omega, by go_num, _, rfl⟩
                  case measure => simp [intOf]; omega
            · go_wp2_with fail
              go_ret
              exact ⟨rfl, keep_end HB.out _⟩

end Go.Proofs.Ytpeacdghphnmbaa
