/- The walk of SymWalks. -/
import Derived.Test.YtpeacdghphnmbaaV1
namespace Go.Proofs.Ytpeacdghphnmbaa
open Go.RowKit Go.Maps Go.Shelf

attribute [local go_sem] Oper.semAt_some

theorem walk_start {w w1 w2 : World} {lv : Int} (hT : Tab w1 (w.heap.size + 2) [] none (.slice none 0 0) (.map []) 0) (hs : w1.heap.size = w.heap.size + 4) (hB : Below (w.heap.size + 2) ((w.alloc (.cells #[.int .i64 lv] 3)).alloc (.cells #[.bool false] 4)) w1)
    (hb : Below (w.heap.size + 5) (w1.alloc (.cells #[.pointer (some ⟨w.heap.size + 3, 0, none⟩)] 23)) w2) :
    WalkB w.heap.size (w.heap.size + 2) w w2 [] [(w.heap.size, 3, .int .i64 lv), (w.heap.size + 1, 4, .bool false), (w.heap.size + 4, 23, .pointer (some ⟨w.heap.size + 3, 0, none⟩))] := by
  have b1 : Boxed ((w.alloc (.cells #[.int .i64 lv] 3)).alloc (.cells #[.bool false] 4)) w.heap.size 3 (.int .i64 lv) := (Boxed.new w 3 _).alloc _
  have b2 : Boxed ((w.alloc (.cells #[.int .i64 lv] 3)).alloc (.cells #[.bool false] 4)) (w.heap.size + 1) 4 (.bool false) := by have := Boxed.new (w.alloc (.cells #[.int .i64 lv] 3)) 4 (.bool false); simpa using this
  have b3 : Boxed (w1.alloc (.cells #[.pointer (some ⟨w.heap.size + 3, 0, none⟩)] 23)) (w.heap.size + 4) 23 (.pointer (some ⟨w.heap.size + 3, 0, none⟩)) := by rw [← hs]; exact Boxed.new _ _ _
  have old : ∀ k, k < w.heap.size + 2 → w2.heap[k]? = ((w.alloc (.cells #[.int .i64 lv] 3)).alloc (.cells #[.bool false] 4)).heap[k]? := fun k hk => by
    rw [hb.block k (by omega), Below.heap_alloc _ _ _ (by omega), hB.block k hk]
  have hz := hb.size
  simp at hz
  have hB0 : Below w.heap.size w w2 := by
    refine ((((Below.refl _ w).alloc (Nat.le_refl _) _).alloc (by simp) _).trans (hB.mono (by omega))).trans ?_
    exact ((Below.refl _ w1).alloc (by omega) _).trans (hb.mono (by omega))
  have hT2 : Tab w2 (w.heap.size + 2) [] none (.slice none 0 0) (.map []) 0 := (hT.kept (S := fun _ => False) (Fr.of_alloc _ _ _) (fun _ _ h => h)).kept (S := fun _ => False) (Fr.of_below (by simpa [hs] using hb)) (fun _ _ h => h)
  refine ⟨none, _, _, _, hT2, fun p hp => ?_, by omega, hB0, hB0.size⟩
  simp at hp
  rcases hp with rfl | rfl | rfl
  · exact ⟨(old _ (by show w.heap.size < _; omega)).trans b1, by simp, by simp, by show w.heap.size ≠ w.heap.size + 2 + 1; omega, by simp⟩
  · exact ⟨(old _ (by show w.heap.size + 1 < _; omega)).trans b2, by show w.heap.size ≤ w.heap.size + 1; omega, by show w.heap.size + 1 ≠ w.heap.size + 2; omega, by show w.heap.size + 1 ≠ w.heap.size + 2 + 1; omega, by simp⟩
  · exact ⟨(hb.block _ (by show w.heap.size + 4 < _; omega)).trans b3, by show w.heap.size ≤ w.heap.size + 4; omega, by show w.heap.size + 4 ≠ w.heap.size + 2; omega, by show w.heap.size + 4 ≠ w.heap.size + 2 + 1; omega, by simp⟩

set_option maxRecDepth 100000 in
set_option maxHeartbeats 2000000 in
theorem walks_in (l : List ByteArray) (v : Value) (lv : Int) (w : World) (hv : Strs w v l) (hr : ∀ s ∈ l, s.size ≤ 140737488351232) :
    CallsIn Fence.wide 3 Try.prog 6 #[v, .int .i64 lv] w fun e w' => e = .returned (.bool true) ∧ Below w.heap.size w w' := by
  obtain ⟨a, cap, rfl, hlc, hreach, hwide, hcells⟩ := hv
  have HW := Lib.hid hwide
  have HRe := Lib.hid hr
  clear hwide hr
  refine callsIn_of_wp_marks Try.func6 rfl trivial ?_ rfl
  simp only [Try.ntmps6, List.size_toArray, List.length_cons, List.length_nil, Nat.reduceAdd, Nat.reduceSub, Array.replicate_succ, Array.replicate_zero, List.push_toArray, List.append_toArray, List.nil_append, List.cons_append]
  refine wpIn_wide.2 ?_
  go_wp2_with fail
  refine (new_any _).mono ?_
  rintro e w1 ⟨rfl, hT1, hB1, hs1⟩
  simp only [World.size_alloc] at hT1 hB1 hs1
  go_wp2_with fail
  refine (alive_any _).mono ?_
  rintro e w2 ⟨rfl, hB2⟩
  simp only [World.size_alloc, hs1] at hB2
  have H2 := Lib.hid (walk_start hT1 (by omega) hB1 hB2)
  clear hT1 hB2 hB1 hs1
  rcases hcells with rfl | ⟨b, off, rfl, hb, hcell⟩
  · go_wp2_with fail
    go_loopw [25] (fun i wr => ∃ k : Nat, k ≤ 0 ∧ i = .int .i64 k ∧ WalkB w.heap.size (w.heap.size + 2) w wr (plays [] k) (base3 w.heap.size lv)) (fun i _ => 0 - (intOf i).toNat)
    case atStart => exact ⟨0, Nat.zero_le _, rfl, H2.out⟩
    case round =>
      obtain ⟨k, hk, rfl, hWB⟩ := hrel
      have b0 := (hWB.box (p := (w.heap.size + 4, 23, .pointer (some ⟨w.heap.size + 3, 0, none⟩))) (by simp [base3])).cell
      have HWB := Lib.hid hWB
      obtain ⟨rb, sv, D, n, hT, hb3, hm, hB, hsz⟩ := hWB
      have HT := Lib.hid hT
      have HB := Lib.hid hB
      have Hb3 := Lib.hid hb3
      clear hT hB hb3 hm
      obtain ⟨P, hP⟩ : ∃ P, P = plays [] k := ⟨_, rfl⟩
      rw [← hP] at HT HWB
      have HPr : Hid (∀ x ∈ P, x.size ≤ 140737488351232) := fun x hx => HRe.out x (plays_mem (hP ▸ hx))
      clear hP HB Hb3
      have HA2 := Lib.hid ((HWB.out.alloc (.int .i64 P.length) 3).alloc (.int .i64 0) 3)
      have b2 := (HA2.out.box (p := (w.heap.size + 4, 23, .pointer (some ⟨w.heap.size + 3, 0, none⟩))) (by simp [base3])).cell
      go_wp2_with fail
      refine (len_any _ _ _ _ _ _ _ HT.out).mono ?_
      rintro e w' ⟨rfl, rfl⟩
      go_wp2_with fail
      refine (all_in _ _).mono ?_
      rintro e w' ⟨rfl, rfl⟩
      go_wp2_with fail
      refine (wpIn_wide (n := 2)).1 ?_
      obtain ⟨Z, hZ⟩ : ∃ Z, Z = wr.heap.size := ⟨_, rfl⟩
      obtain ⟨W0, hW0⟩ : ∃ W0, W0 = (((wr.alloc (.cells #[.int .i64 P.length] 3)).alloc (.cells #[.int .i64 0] 3)).alloc (.cells #[.pointer (some ⟨w.heap.size + 3, 0, none⟩)] 23)) := ⟨_, rfl⟩
      have HA3 := walk_w0 HA2.out hZ hW0
      have hz0 : W0.heap.size = Z + 3 := by rw [hW0, hZ]; simp
      rw [← hW0, ← hZ]
      have HA3 := Lib.hid HA3
      have hZm : w.heap.size + 5 ≤ Z := by rw [hZ]; exact walk_sz HWB.out
      clear hZ hW0 HA2 b2 b0 HT HWB
      refine wpIn_rangeFunc_ownG rfl (by omega) (gf := 22) (lb := #[.pointer (some ⟨Z + 1 + 1, 0, none⟩)]) rfl trivial (enters_of Try.func22 (by kernel_rfl) rfl)
        (walk_stops HA3.out (by simp [walkBs])) (fun h h' x => h' (h x)) (fun W l o o' _ hl ho _ hs => hs.kept (grownBy_putObj' W l o') (fun r e => by cases e; exact ⟨o, hl, ho⟩)) (Below.refl _ _) (fun _ => rfl)
        (fun pre W => (pre = fins P pre.length ∧ pre.length ≤ P.length) ∧ (∃ L', P <+: L' ∧ WalkB w.heap.size (w.heap.size + 2) w W L' (walkBs w.heap.size lv Z P.length pre.length) ∧ w.heap.size ≤ W0.heap.size))
        (fun c pre W => (c = .ret ∧ (pre <+: List.finRange P.length → Boxed W (w.heap.size + 1) 4 (.bool true))) ∧ Below w.heap.size w W)
        (OwnFrom.and (ownFrom_pure _ _) (walkB_own (by omega) (fun _ L' => P <+: L') (fun (pre : List (Fin P.length)) => walkBs w.heap.size lv Z P.length pre.length)))
        (fun c => OwnFrom.and (fun s A B row hs hg hr => ⟨hs.1, fun h => stands_boxed (hs.2 h) hg (fun r e => (hr r e).2)⟩) (ownFrom_below (Nat.le_refl _) (by omega)))
        ⟨⟨by simp [fins], Nat.zero_le _⟩, P, List.prefix_refl _, HA3.out, by omega⟩
        (fun x => { tmps := #[.slice a 0 cap, .int .i64 lv, undef, .pointer (some ⟨w.heap.size, 0, none⟩), .pointer (some ⟨w.heap.size + 1, 0, none⟩), .pointer (some ⟨w.heap.size + 1 + 1 + 2, 0, none⟩), undef, u7,
          .pointer (some ⟨Z, 0, none⟩), .pointer (some ⟨Z + 1, 0, none⟩), .int .i64 (x.1 : Nat), .string (nth P x.1), .pointer (some ⟨w.heap.size + 1 + 1 + 1, 0, none⟩), .pointer (some ⟨w.heap.size + 1 + 1 + 1, 0, none⟩), .bool false, .bool false, .bool true, .bool false, .bool false,
          .slice a 0 cap, .slice a 0 cap, .int .i64 0, .int .i64 0, .slice a 0 cap, .int .i64 0, .int .i64 k, .bool false, u27, u28, u29, u30, u31, u32,
          .pointer (some ⟨w.heap.size + 3, 0, none⟩), .int .i64 P.length, .pointer (some ⟨w.heap.size + 3, 0, none⟩), .func (.func 22) #[] #[.pointer (some ⟨Z + 1 + 1, 0, none⟩)], .int .i64 (x.1 : Nat), .string (nth P x.1), undef, undef, undef, undef, undef, undef, undef, undef, undef, undef, undef, undef, undef, undef, undef, undef, undef, undef, undef, undef], defers := [] }) ?assign ?body ?done ?stop
      case assign =>
        intro l x W K hK
        gi_wp2
        exact hK
      case body =>
        rintro l pre x W ⟨⟨hp, hpl⟩, L', hPL, hWB, _⟩ hlt
        have HWB := Lib.hid hWB
        have HPL := Lib.hid hPL
        have HP := Lib.hid hp
        clear hp hWB hPL
        have c4 := (walk_box HWB.out).1.cell
        have cR := (walk_box HWB.out).2.1.cell
        have fR := (walk_box HWB.out).2.1.frozen
        have cW := (walk_box HWB.out).2.2.1.cell
        have cI := (walk_box HWB.out).2.2.2.1.cell
        have fI := (walk_box HWB.out).2.2.2.1.frozen
        have cL := (walk_box HWB.out).2.2.2.2.cell
        by_cases hx : x.1 = pre.length
        · obtain ⟨k, hk⟩ := x
          obtain rfl : k = pre.length := hx
          have hd : decide (P.length ≤ pre.length) = false := by simp; omega
          have hs1 : (nth P pre.length).size + 1 ≤ 140737488351233 := by have := HPr.out _ (nth_in hk); omega
          have hP16 := walk_len HPL.out HWB.out
          gi_wp2_with fail
          obtain ⟨rb, sv, D, n, hT, hbs, hm, hB, hsz⟩ := HWB.out
          refine ⟨trivial, rfl, (CallsIn.inRound l (callsIn_wide.2 (put_any _ _ _ _ _ _ _ _ hT (walk_cat hs1)))).mono ?_⟩
          rintro e w3 ⟨rfl, h3⟩
          have H3 := Lib.hid (WalkB.put hT hbs hm hB hsz h3)
          have HK3 := Lib.hid (walk_keeps (B := W0.heap.size) hT (by omega) h3)
          clear hT hbs hm hB hsz h3
          have c43 := (walk_box H3.out).1.cell
          have cR3 := (walk_box H3.out).2.1.cell
          have fR3 := (walk_box H3.out).2.1.frozen
          have cI3 := (walk_box H3.out).2.2.2.1.cell
          have fI3 := (walk_box H3.out).2.2.2.1.frozen
          have cL3 := (walk_box H3.out).2.2.2.2.cell
          by_cases hlv : (pre.length : Int) = lv
          · have hlb : ((pre.length : Int) == lv) = true := by simp [hlv]
            clear hlv
            gi_wp2_with fail
            refine ⟨HK3.out.trans ((KeepsOthers.setCell _ _ _).from _), ⟨rfl, fun _ => (walk_box H3.out).2.1.set _⟩, (walk_bel H3.out).setCell (by show w.heap.size ≤ w.heap.size + 1; omega) _⟩
          · have hlb : ((pre.length : Int) == lv) = false := by simp [hlv]
            clear hlv
            have hpx : pre ++ [⟨pre.length, hk⟩] = fins P (pre.length + 1) := by rw [fins_succ hk, ← HP.out]
            have hlen := fins_len (L := P) (k := pre.length + 1) (by omega)
            have HPX := Lib.hid hpx
            have HLE := Lib.hid hlen
            clear hpx hlen
            gi_wp2_with fail
            have H5 := walk_inc H3.out (by omega)
            refine ⟨HK3.out.trans ((KeepsOthers.setCell _ _ _).from _), fun _ => ?_, ⟨?_, ?_⟩, _, pL_prefix (s := nth P pre.length ++ ⟨#[39]⟩) HPL.out, ?_, by omega⟩
            · exact walk_sees H5 (pL_prefix HPL.out)
            · rw [HPX.out, HLE.out]
            · rw [HPX.out, HLE.out]; omega
            · rw [HPX.out, HLE.out]; exact H5
        · have hne : (((x.1 : Nat) : Int) != ((pre.length : Nat) : Int)) = true := by simp; omega
          gi_wp2_with fail
          exact ⟨(KeepsOthers.setCell _ _ _).from _, ⟨rfl, fun hpre => absurd (fins_at hpre) hx⟩, (walk_bel HWB.out).setCell (by show w.heap.size ≤ w.heap.size + 1; omega) _⟩
      case done =>
        rintro D ys W hD rfl ⟨⟨hp, hpl⟩, L', hPL, hWB, _⟩ hK
        have HWB := Lib.hid hWB
        have HK := Lib.hid hK
        have cR := (walk_box HWB.out).2.1.cell
        have fR := (walk_box HWB.out).2.1.frozen
        have cW := (walk_box HWB.out).2.2.1.cell
        have cI := (walk_box HWB.out).2.2.2.1.cell
        rw [List.length_finRange] at cI
        have hP16 := walk_len hPL HWB.out
        clear hp hpl hPL hWB hK
        gi_wp2_with fail
        go_wp2_with fail
        have hK' : (W.setCell ⟨w.heap.size + 1, 0, none⟩ (.bool true)).heap[D]? = some (.deferred (some [])) := (KeepsOthers.setCell W ⟨w.heap.size + 1, 0, none⟩ (.bool true)).same D _ HK.out rfl
        have hc5 := cell_kept ((walk_box HWB.out).2.1.set (.bool true)).cell (grownBy_putObj' _ D (.deferred none)) (fun r e => by cases e; exact ⟨_, hK', rfl⟩)
        have hb1 : Below w.heap.size w (W.setCell ⟨w.heap.size + 1, 0, none⟩ (.bool true)) := (walk_bel HWB.out).setCell (p := ⟨w.heap.size + 1, 0, none⟩) (by simp) _
        have hb2 := belowK_b (w := w) (Nat.le_refl _) _ D _ (.deferred none) (by omega) hK' rfl rfl
        refine ⟨by simp, .inl ⟨_, _, rfl, run_takeDeferred hK', ?_⟩⟩
        refine ⟨.bool true, ?_, rfl, hb1.trans hb2⟩
        simp [results, Try.f6, go_sem, hc5]
      case stop =>
        rintro D c pre W hD hpre ⟨⟨rfl, hno⟩, hB⟩ hK
        have HBX := Lib.hid (hno hpre)
        have HK := Lib.hid hK
        clear hno hK
        gi_wp2_with fail
        have hc5 := cell_kept HBX.out.cell (grownBy_putObj' _ D (.deferred none)) (fun r e => by cases e; exact ⟨_, HK.out, rfl⟩)
        have hb2 := belowK_b (w := w) (Nat.le_refl _) W D _ (.deferred none) (by omega) HK.out rfl rfl
        refine ⟨by simp, .inl ⟨_, _, rfl, run_takeDeferred HK.out, ?_⟩⟩
        refine ⟨.bool true, ?_, rfl, hB.trans hb2⟩
        simp [results, Try.f6, go_sem, hc5]
  · by_cases h0 : l.length ≤ 500
    · go_wp2_with fail
      go_loopw [25] (fun i wr => ∃ k : Nat, k ≤ l.length ∧ i = .int .i64 k ∧ WalkB w.heap.size (w.heap.size + 2) w wr (plays l k) (base3 w.heap.size lv)) (fun i _ => l.length - (intOf i).toNat)
      case atStart => exact ⟨0, Nat.zero_le _, rfl, H2.out⟩
      case round =>
        obtain ⟨k, hk, rfl, hWB⟩ := hrel
        have b0 := (hWB.box (p := (w.heap.size + 4, 23, .pointer (some ⟨w.heap.size + 3, 0, none⟩))) (by simp [base3])).cell
        have HWB := Lib.hid hWB
        obtain ⟨rb, sv, D, n, hT, hb3, hm, hB, hsz⟩ := hWB
        have HT := Lib.hid hT
        have HB := Lib.hid hB
        have Hb3 := Lib.hid hb3
        clear hT hB hb3 hm
        by_cases hlt : k < l.length
        · have hcx : wr.cell? ⟨b, off + k, none⟩ = some (.string (nth l k)) := (HB.out.cell (p := ⟨b, off + k, none⟩) hb).trans (hcell k (by omega))
          go_wp2_with fail
          refine (put_any _ _ _ _ _ _ _ _ HT.out (nth_wide HW.out k)).mono ?_
          rintro e w3 ⟨rfl, h3⟩
          have H3 := Lib.hid (WalkB.put HT.out Hb3.out (by omega) HB.out hsz h3)
          clear h3
          go_wp2_with fail
          go_roundw
          case rel => exact ⟨k + 1, by omega, by go_num, by rw [plays_succ (by omega)]; exact H3.out⟩
          case measure => simp [intOf]; omega
        · obtain ⟨P, hP⟩ : ∃ P, P = plays l k := ⟨_, rfl⟩
          rw [← hP] at HT HWB
          have HPr : Hid (∀ x ∈ P, x.size ≤ 140737488351232) := fun x hx => HRe.out x (plays_mem (hP ▸ hx))
          clear hP HB Hb3
          have HA2 := Lib.hid ((HWB.out.alloc (.int .i64 P.length) 3).alloc (.int .i64 0) 3)
          have b2 := (HA2.out.box (p := (w.heap.size + 4, 23, .pointer (some ⟨w.heap.size + 3, 0, none⟩))) (by simp [base3])).cell
          go_wp2_with fail
          refine (len_any _ _ _ _ _ _ _ HT.out).mono ?_
          rintro e w' ⟨rfl, rfl⟩
          go_wp2_with fail
          refine (all_in _ _).mono ?_
          rintro e w' ⟨rfl, rfl⟩
          go_wp2_with fail
          refine (wpIn_wide (n := 2)).1 ?_
          obtain ⟨Z, hZ⟩ : ∃ Z, Z = wr.heap.size := ⟨_, rfl⟩
          obtain ⟨W0, hW0⟩ : ∃ W0, W0 = (((wr.alloc (.cells #[.int .i64 P.length] 3)).alloc (.cells #[.int .i64 0] 3)).alloc (.cells #[.pointer (some ⟨w.heap.size + 3, 0, none⟩)] 23)) := ⟨_, rfl⟩
          have HA3 := walk_w0 HA2.out hZ hW0
          have hz0 : W0.heap.size = Z + 3 := by rw [hW0, hZ]; simp
          rw [← hW0, ← hZ]
          have HA3 := Lib.hid HA3
          have hZm : w.heap.size + 5 ≤ Z := by rw [hZ]; exact walk_sz HWB.out
          clear hZ hW0 HA2 b2 b0 HT HWB
          refine wpIn_rangeFunc_ownG rfl (by omega) (gf := 22) (lb := #[.pointer (some ⟨Z + 1 + 1, 0, none⟩)]) rfl trivial (enters_of Try.func22 (by kernel_rfl) rfl)
            (walk_stops HA3.out (by simp [walkBs])) (fun h h' x => h' (h x)) (fun W l o o' _ hl ho _ hs => hs.kept (grownBy_putObj' W l o') (fun r e => by cases e; exact ⟨o, hl, ho⟩)) (Below.refl _ _) (fun _ => rfl)
            (fun pre W => (pre = fins P pre.length ∧ pre.length ≤ P.length) ∧ (∃ L', P <+: L' ∧ WalkB w.heap.size (w.heap.size + 2) w W L' (walkBs w.heap.size lv Z P.length pre.length) ∧ w.heap.size ≤ W0.heap.size))
            (fun c pre W => (c = .ret ∧ (pre <+: List.finRange P.length → Boxed W (w.heap.size + 1) 4 (.bool true))) ∧ Below w.heap.size w W)
            (OwnFrom.and (ownFrom_pure _ _) (walkB_own (by omega) (fun _ L' => P <+: L') (fun (pre : List (Fin P.length)) => walkBs w.heap.size lv Z P.length pre.length)))
            (fun c => OwnFrom.and (fun s A B row hs hg hr => ⟨hs.1, fun h => stands_boxed (hs.2 h) hg (fun r e => (hr r e).2)⟩) (ownFrom_below (Nat.le_refl _) (by omega)))
            ⟨⟨by simp [fins], Nat.zero_le _⟩, P, List.prefix_refl _, HA3.out, by omega⟩
            (fun x => { tmps := #[.slice (some ⟨b, off, none⟩) l.length cap, .int .i64 lv, undef, .pointer (some ⟨w.heap.size, 0, none⟩), .pointer (some ⟨w.heap.size + 1, 0, none⟩), .pointer (some ⟨w.heap.size + 1 + 1 + 2, 0, none⟩), undef, u7,
              .pointer (some ⟨Z, 0, none⟩), .pointer (some ⟨Z + 1, 0, none⟩), .int .i64 (x.1 : Nat), .string (nth P x.1), .pointer (some ⟨w.heap.size + 1 + 1 + 1, 0, none⟩), .pointer (some ⟨w.heap.size + 1 + 1 + 1, 0, none⟩), .bool false, .bool false, .bool true, .bool false, .bool false,
              .slice (some ⟨b, off, none⟩) l.length cap, .slice (some ⟨b, off, none⟩) l.length cap, .int .i64 l.length, .int .i64 l.length, .slice (some ⟨b, off, none⟩) l.length cap, .int .i64 l.length, .int .i64 k, .bool false, u27, u28, u29, u30, u31, u32,
              .pointer (some ⟨w.heap.size + 3, 0, none⟩), .int .i64 P.length, .pointer (some ⟨w.heap.size + 3, 0, none⟩), .func (.func 22) #[] #[.pointer (some ⟨Z + 1 + 1, 0, none⟩)], .int .i64 (x.1 : Nat), .string (nth P x.1), undef, undef, undef, undef, undef, undef, undef, undef, undef, undef, undef, undef, undef, undef, undef, undef, undef, undef, undef, undef], defers := [] }) ?assign ?body ?done ?stop
          case assign =>
            intro l x W K hK
            gi_wp2
            exact hK
          case body =>
            rintro l pre x W ⟨⟨hp, hpl⟩, L', hPL, hWB, _⟩ hlt
            have HWB := Lib.hid hWB
            have HPL := Lib.hid hPL
            have HP := Lib.hid hp
            clear hp hWB hPL
            have c4 := (walk_box HWB.out).1.cell
            have cR := (walk_box HWB.out).2.1.cell
            have fR := (walk_box HWB.out).2.1.frozen
            have cW := (walk_box HWB.out).2.2.1.cell
            have cI := (walk_box HWB.out).2.2.2.1.cell
            have fI := (walk_box HWB.out).2.2.2.1.frozen
            have cL := (walk_box HWB.out).2.2.2.2.cell
            by_cases hx : x.1 = pre.length
            · obtain ⟨k, hk⟩ := x
              obtain rfl : k = pre.length := hx
              have hd : decide (P.length ≤ pre.length) = false := by simp; omega
              have hs1 : (nth P pre.length).size + 1 ≤ 140737488351233 := by have := HPr.out _ (nth_in hk); omega
              have hP16 := walk_len HPL.out HWB.out
              gi_wp2_with fail
              obtain ⟨rb, sv, D, n, hT, hbs, hm, hB, hsz⟩ := HWB.out
              refine ⟨trivial, rfl, (CallsIn.inRound l (callsIn_wide.2 (put_any _ _ _ _ _ _ _ _ hT (walk_cat hs1)))).mono ?_⟩
              rintro e w3 ⟨rfl, h3⟩
              have H3 := Lib.hid (WalkB.put hT hbs hm hB hsz h3)
              have HK3 := Lib.hid (walk_keeps (B := W0.heap.size) hT (by omega) h3)
              clear hT hbs hm hB hsz h3
              have c43 := (walk_box H3.out).1.cell
              have cR3 := (walk_box H3.out).2.1.cell
              have fR3 := (walk_box H3.out).2.1.frozen
              have cI3 := (walk_box H3.out).2.2.2.1.cell
              have fI3 := (walk_box H3.out).2.2.2.1.frozen
              have cL3 := (walk_box H3.out).2.2.2.2.cell
              by_cases hlv : (pre.length : Int) = lv
              · have hlb : ((pre.length : Int) == lv) = true := by simp [hlv]
                clear hlv
                gi_wp2_with fail
                refine ⟨HK3.out.trans ((KeepsOthers.setCell _ _ _).from _), ⟨rfl, fun _ => (walk_box H3.out).2.1.set _⟩, (walk_bel H3.out).setCell (by show w.heap.size ≤ w.heap.size + 1; omega) _⟩
              · have hlb : ((pre.length : Int) == lv) = false := by simp [hlv]
                clear hlv
                have hpx : pre ++ [⟨pre.length, hk⟩] = fins P (pre.length + 1) := by rw [fins_succ hk, ← HP.out]
                have hlen := fins_len (L := P) (k := pre.length + 1) (by omega)
                have HPX := Lib.hid hpx
                have HLE := Lib.hid hlen
                clear hpx hlen
                gi_wp2_with fail
                have H5 := walk_inc H3.out (by omega)
                refine ⟨HK3.out.trans ((KeepsOthers.setCell _ _ _).from _), fun _ => ?_, ⟨?_, ?_⟩, _, pL_prefix (s := nth P pre.length ++ ⟨#[39]⟩) HPL.out, ?_, by omega⟩
                · exact walk_sees H5 (pL_prefix HPL.out)
                · rw [HPX.out, HLE.out]
                · rw [HPX.out, HLE.out]; omega
                · rw [HPX.out, HLE.out]; exact H5
            · have hne : (((x.1 : Nat) : Int) != ((pre.length : Nat) : Int)) = true := by simp; omega
              gi_wp2_with fail
              exact ⟨(KeepsOthers.setCell _ _ _).from _, ⟨rfl, fun hpre => absurd (fins_at hpre) hx⟩, (walk_bel HWB.out).setCell (by show w.heap.size ≤ w.heap.size + 1; omega) _⟩
          case done =>
            rintro D ys W hD rfl ⟨⟨hp, hpl⟩, L', hPL, hWB, _⟩ hK
            have HWB := Lib.hid hWB
            have HK := Lib.hid hK
            have cR := (walk_box HWB.out).2.1.cell
            have fR := (walk_box HWB.out).2.1.frozen
            have cW := (walk_box HWB.out).2.2.1.cell
            have cI := (walk_box HWB.out).2.2.2.1.cell
            rw [List.length_finRange] at cI
            have hP16 := walk_len hPL HWB.out
            clear hp hpl hPL hWB hK
            gi_wp2_with fail
            go_wp2_with fail
            have hK' : (W.setCell ⟨w.heap.size + 1, 0, none⟩ (.bool true)).heap[D]? = some (.deferred (some [])) := (KeepsOthers.setCell W ⟨w.heap.size + 1, 0, none⟩ (.bool true)).same D _ HK.out rfl
            have hc5 := cell_kept ((walk_box HWB.out).2.1.set (.bool true)).cell (grownBy_putObj' _ D (.deferred none)) (fun r e => by cases e; exact ⟨_, hK', rfl⟩)
            have hb1 : Below w.heap.size w (W.setCell ⟨w.heap.size + 1, 0, none⟩ (.bool true)) := (walk_bel HWB.out).setCell (p := ⟨w.heap.size + 1, 0, none⟩) (by simp) _
            have hb2 := belowK_b (w := w) (Nat.le_refl _) _ D _ (.deferred none) (by omega) hK' rfl rfl
            refine ⟨by simp, .inl ⟨_, _, rfl, run_takeDeferred hK', ?_⟩⟩
            refine ⟨.bool true, ?_, rfl, hb1.trans hb2⟩
            simp [results, Try.f6, go_sem, hc5]
          case stop =>
            rintro D c pre W hD hpre ⟨⟨rfl, hno⟩, hB⟩ hK
            have HBX := Lib.hid (hno hpre)
            have HK := Lib.hid hK
            clear hno hK
            gi_wp2_with fail
            have hc5 := cell_kept HBX.out.cell (grownBy_putObj' _ D (.deferred none)) (fun r e => by cases e; exact ⟨_, HK.out, rfl⟩)
            have hb2 := belowK_b (w := w) (Nat.le_refl _) W D _ (.deferred none) (by omega) HK.out rfl rfl
            refine ⟨by simp, .inl ⟨_, _, rfl, run_takeDeferred HK.out, ?_⟩⟩
            refine ⟨.bool true, ?_, rfl, hB.trans hb2⟩
            simp [results, Try.f6, go_sem, hc5]
    · have h0' : 500 ≤ l.length := by omega
      go_wp2_with fail
      go_loopw [25] (fun i wr => ∃ k : Nat, k ≤ 500 ∧ i = .int .i64 k ∧ WalkB w.heap.size (w.heap.size + 2) w wr (plays l k) (base3 w.heap.size lv)) (fun i _ => 500 - (intOf i).toNat)
      case atStart => exact ⟨0, Nat.zero_le _, rfl, H2.out⟩
      case round =>
        obtain ⟨k, hk, rfl, hWB⟩ := hrel
        have b0 := (hWB.box (p := (w.heap.size + 4, 23, .pointer (some ⟨w.heap.size + 3, 0, none⟩))) (by simp [base3])).cell
        have HWB := Lib.hid hWB
        obtain ⟨rb, sv, D, n, hT, hb3, hm, hB, hsz⟩ := hWB
        have HT := Lib.hid hT
        have HB := Lib.hid hB
        have Hb3 := Lib.hid hb3
        clear hT hB hb3 hm
        by_cases hlt : k < 500
        · have hcx : wr.cell? ⟨b, off + k, none⟩ = some (.string (nth l k)) := (HB.out.cell (p := ⟨b, off + k, none⟩) hb).trans (hcell k (by omega))
          go_wp2_with fail
          refine (put_any _ _ _ _ _ _ _ _ HT.out (nth_wide HW.out k)).mono ?_
          rintro e w3 ⟨rfl, h3⟩
          have H3 := Lib.hid (WalkB.put HT.out Hb3.out (by omega) HB.out hsz h3)
          clear h3
          go_wp2_with fail
          go_roundw
          case rel => exact ⟨k + 1, by omega, by go_num, by rw [plays_succ (by omega)]; exact H3.out⟩
          case measure => simp [intOf]; omega
        · obtain ⟨P, hP⟩ : ∃ P, P = plays l k := ⟨_, rfl⟩
          rw [← hP] at HT HWB
          have HPr : Hid (∀ x ∈ P, x.size ≤ 140737488351232) := fun x hx => HRe.out x (plays_mem (hP ▸ hx))
          clear hP HB Hb3
          have HA2 := Lib.hid ((HWB.out.alloc (.int .i64 P.length) 3).alloc (.int .i64 0) 3)
          have b2 := (HA2.out.box (p := (w.heap.size + 4, 23, .pointer (some ⟨w.heap.size + 3, 0, none⟩))) (by simp [base3])).cell
          go_wp2_with fail
          refine (len_any _ _ _ _ _ _ _ HT.out).mono ?_
          rintro e w' ⟨rfl, rfl⟩
          go_wp2_with fail
          refine (all_in _ _).mono ?_
          rintro e w' ⟨rfl, rfl⟩
          go_wp2_with fail
          refine (wpIn_wide (n := 2)).1 ?_
          obtain ⟨Z, hZ⟩ : ∃ Z, Z = wr.heap.size := ⟨_, rfl⟩
          obtain ⟨W0, hW0⟩ : ∃ W0, W0 = (((wr.alloc (.cells #[.int .i64 P.length] 3)).alloc (.cells #[.int .i64 0] 3)).alloc (.cells #[.pointer (some ⟨w.heap.size + 3, 0, none⟩)] 23)) := ⟨_, rfl⟩
          have HA3 := walk_w0 HA2.out hZ hW0
          have hz0 : W0.heap.size = Z + 3 := by rw [hW0, hZ]; simp
          rw [← hW0, ← hZ]
          have HA3 := Lib.hid HA3
          have hZm : w.heap.size + 5 ≤ Z := by rw [hZ]; exact walk_sz HWB.out
          clear hZ hW0 HA2 b2 b0 HT HWB
          refine wpIn_rangeFunc_ownG rfl (by omega) (gf := 22) (lb := #[.pointer (some ⟨Z + 1 + 1, 0, none⟩)]) rfl trivial (enters_of Try.func22 (by kernel_rfl) rfl)
            (walk_stops HA3.out (by simp [walkBs])) (fun h h' x => h' (h x)) (fun W l o o' _ hl ho _ hs => hs.kept (grownBy_putObj' W l o') (fun r e => by cases e; exact ⟨o, hl, ho⟩)) (Below.refl _ _) (fun _ => rfl)
            (fun pre W => (pre = fins P pre.length ∧ pre.length ≤ P.length) ∧ (∃ L', P <+: L' ∧ WalkB w.heap.size (w.heap.size + 2) w W L' (walkBs w.heap.size lv Z P.length pre.length) ∧ w.heap.size ≤ W0.heap.size))
            (fun c pre W => (c = .ret ∧ (pre <+: List.finRange P.length → Boxed W (w.heap.size + 1) 4 (.bool true))) ∧ Below w.heap.size w W)
            (OwnFrom.and (ownFrom_pure _ _) (walkB_own (by omega) (fun _ L' => P <+: L') (fun (pre : List (Fin P.length)) => walkBs w.heap.size lv Z P.length pre.length)))
            (fun c => OwnFrom.and (fun s A B row hs hg hr => ⟨hs.1, fun h => stands_boxed (hs.2 h) hg (fun r e => (hr r e).2)⟩) (ownFrom_below (Nat.le_refl _) (by omega)))
            ⟨⟨by simp [fins], Nat.zero_le _⟩, P, List.prefix_refl _, HA3.out, by omega⟩
            (fun x => { tmps := #[.slice (some ⟨b, off, none⟩) l.length cap, .int .i64 lv, undef, .pointer (some ⟨w.heap.size, 0, none⟩), .pointer (some ⟨w.heap.size + 1, 0, none⟩), .pointer (some ⟨w.heap.size + 1 + 1 + 2, 0, none⟩), undef, u7,
              .pointer (some ⟨Z, 0, none⟩), .pointer (some ⟨Z + 1, 0, none⟩), .int .i64 (x.1 : Nat), .string (nth P x.1), .pointer (some ⟨w.heap.size + 1 + 1 + 1, 0, none⟩), .pointer (some ⟨w.heap.size + 1 + 1 + 1, 0, none⟩), .bool false, .bool false, .bool true, .bool false, .bool false,
              .slice (some ⟨b, off, none⟩) l.length cap, .slice (some ⟨b, off, none⟩) l.length cap, .int .i64 l.length, .int .i64 500, .slice (some ⟨b, off, none⟩) 500 cap, .int .i64 500, .int .i64 k, .bool (decide ((k : Int) < 500)), u27, u28, u29, u30, u31, u32,
              .pointer (some ⟨w.heap.size + 3, 0, none⟩), .int .i64 P.length, .pointer (some ⟨w.heap.size + 3, 0, none⟩), .func (.func 22) #[] #[.pointer (some ⟨Z + 1 + 1, 0, none⟩)], .int .i64 (x.1 : Nat), .string (nth P x.1), undef, undef, undef, undef, undef, undef, undef, undef, undef, undef, undef, undef, undef, undef, undef, undef, undef, undef, undef, undef], defers := [] }) ?assign ?body ?done ?stop
          case assign =>
            intro l x W K hK
            gi_wp2
            exact hK
          case body =>
            rintro l pre x W ⟨⟨hp, hpl⟩, L', hPL, hWB, _⟩ hlt
            have HWB := Lib.hid hWB
            have HPL := Lib.hid hPL
            have HP := Lib.hid hp
            clear hp hWB hPL
            have c4 := (walk_box HWB.out).1.cell
            have cR := (walk_box HWB.out).2.1.cell
            have fR := (walk_box HWB.out).2.1.frozen
            have cW := (walk_box HWB.out).2.2.1.cell
            have cI := (walk_box HWB.out).2.2.2.1.cell
            have fI := (walk_box HWB.out).2.2.2.1.frozen
            have cL := (walk_box HWB.out).2.2.2.2.cell
            by_cases hx : x.1 = pre.length
            · obtain ⟨k, hk⟩ := x
              obtain rfl : k = pre.length := hx
              have hd : decide (P.length ≤ pre.length) = false := by simp; omega
              have hs1 : (nth P pre.length).size + 1 ≤ 140737488351233 := by have := HPr.out _ (nth_in hk); omega
              have hP16 := walk_len HPL.out HWB.out
              gi_wp2_with fail
              obtain ⟨rb, sv, D, n, hT, hbs, hm, hB, hsz⟩ := HWB.out
              refine ⟨trivial, rfl, (CallsIn.inRound l (callsIn_wide.2 (put_any _ _ _ _ _ _ _ _ hT (walk_cat hs1)))).mono ?_⟩
              rintro e w3 ⟨rfl, h3⟩
              have H3 := Lib.hid (WalkB.put hT hbs hm hB hsz h3)
              have HK3 := Lib.hid (walk_keeps (B := W0.heap.size) hT (by omega) h3)
              clear hT hbs hm hB hsz h3
              have c43 := (walk_box H3.out).1.cell
              have cR3 := (walk_box H3.out).2.1.cell
              have fR3 := (walk_box H3.out).2.1.frozen
              have cI3 := (walk_box H3.out).2.2.2.1.cell
              have fI3 := (walk_box H3.out).2.2.2.1.frozen
              have cL3 := (walk_box H3.out).2.2.2.2.cell
              by_cases hlv : (pre.length : Int) = lv
              · have hlb : ((pre.length : Int) == lv) = true := by simp [hlv]
                clear hlv
                gi_wp2_with fail
                refine ⟨HK3.out.trans ((KeepsOthers.setCell _ _ _).from _), ⟨rfl, fun _ => (walk_box H3.out).2.1.set _⟩, (walk_bel H3.out).setCell (by show w.heap.size ≤ w.heap.size + 1; omega) _⟩
              · have hlb : ((pre.length : Int) == lv) = false := by simp [hlv]
                clear hlv
                have hpx : pre ++ [⟨pre.length, hk⟩] = fins P (pre.length + 1) := by rw [fins_succ hk, ← HP.out]
                have hlen := fins_len (L := P) (k := pre.length + 1) (by omega)
                have HPX := Lib.hid hpx
                have HLE := Lib.hid hlen
                clear hpx hlen
                gi_wp2_with fail
                have H5 := walk_inc H3.out (by omega)
                refine ⟨HK3.out.trans ((KeepsOthers.setCell _ _ _).from _), fun _ => ?_, ⟨?_, ?_⟩, _, pL_prefix (s := nth P pre.length ++ ⟨#[39]⟩) HPL.out, ?_, by omega⟩
                · exact walk_sees H5 (pL_prefix HPL.out)
                · rw [HPX.out, HLE.out]
                · rw [HPX.out, HLE.out]; omega
                · rw [HPX.out, HLE.out]; exact H5
            · have hne : (((x.1 : Nat) : Int) != ((pre.length : Nat) : Int)) = true := by simp; omega
              gi_wp2_with fail
              exact ⟨(KeepsOthers.setCell _ _ _).from _, ⟨rfl, fun hpre => absurd (fins_at hpre) hx⟩, (walk_bel HWB.out).setCell (by show w.heap.size ≤ w.heap.size + 1; omega) _⟩
          case done =>
            rintro D ys W hD rfl ⟨⟨hp, hpl⟩, L', hPL, hWB, _⟩ hK
            have HWB := Lib.hid hWB
            have HK := Lib.hid hK
            have cR := (walk_box HWB.out).2.1.cell
            have fR := (walk_box HWB.out).2.1.frozen
            have cW := (walk_box HWB.out).2.2.1.cell
            have cI := (walk_box HWB.out).2.2.2.1.cell
            rw [List.length_finRange] at cI
            have hP16 := walk_len hPL HWB.out
            clear hp hpl hPL hWB hK
            gi_wp2_with fail
            go_wp2_with fail
            have hK' : (W.setCell ⟨w.heap.size + 1, 0, none⟩ (.bool true)).heap[D]? = some (.deferred (some [])) := (KeepsOthers.setCell W ⟨w.heap.size + 1, 0, none⟩ (.bool true)).same D _ HK.out rfl
            have hc5 := cell_kept ((walk_box HWB.out).2.1.set (.bool true)).cell (grownBy_putObj' _ D (.deferred none)) (fun r e => by cases e; exact ⟨_, hK', rfl⟩)
            have hb1 : Below w.heap.size w (W.setCell ⟨w.heap.size + 1, 0, none⟩ (.bool true)) := (walk_bel HWB.out).setCell (p := ⟨w.heap.size + 1, 0, none⟩) (by simp) _
            have hb2 := belowK_b (w := w) (Nat.le_refl _) _ D _ (.deferred none) (by omega) hK' rfl rfl
            refine ⟨by simp, .inl ⟨_, _, rfl, run_takeDeferred hK', ?_⟩⟩
            refine ⟨.bool true, ?_, rfl, hb1.trans hb2⟩
            simp [results, Try.f6, go_sem, hc5]
          case stop =>
            rintro D c pre W hD hpre ⟨⟨rfl, hno⟩, hB⟩ hK
            have HBX := Lib.hid (hno hpre)
            have HK := Lib.hid hK
            clear hno hK
            gi_wp2_with fail
            have hc5 := cell_kept HBX.out.cell (grownBy_putObj' _ D (.deferred none)) (fun r e => by cases e; exact ⟨_, HK.out, rfl⟩)
            have hb2 := belowK_b (w := w) (Nat.le_refl _) W D _ (.deferred none) (by omega) HK.out rfl rfl
            refine ⟨by simp, .inl ⟨_, _, rfl, run_takeDeferred HK.out, ?_⟩⟩
            refine ⟨.bool true, ?_, rfl, hB.trans hb2⟩
            simp [results, Try.f6, go_sem, hc5]

end Go.Proofs.Ytpeacdghphnmbaa
