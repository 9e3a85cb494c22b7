/- The replacer's Replace: the walk (printed by genrepl.py). -/
import Derived.Test.YtnddcicadmbmkaaGreatDoorB6
import Derived.StillTailTactics
import Derived.Laws.CopyOwn
import Derived.BigQuiet
import Derived.Deep.QuietTactic
namespace Go.Proofs.YtnddcicadmbmkaaGreatDoor
open Go.RowKit

theorem ret_str {a b : ByteArray} (h : a = b) : Ending.returned (.string a) = .returned (.string b) := by rw [h]
theorem get_eq {s : ByteArray} {k : Nat} (h : k < s.size) : s.data.toList[k]'(by simpa using h) = s[k] := by simp; rfl
theorem put_cell {w : World} {g j : Nat} {cu : List Value} {t : TypeId} {v : Value} (h : w.heap[g]? = some (.cells cu.toArray t (0, 0))) : (w.setCell ⟨g, j, none⟩ v).heap[g]? = some (.cells (cu.set j v).toArray t (0, 0)) := by
  simp [World.setCell, Array.getElem?_modify, h]
theorem take_set {cu : List Value} {j : Nat} {v : Value} (h : j < cu.length) : (cu.set j v).take (j + 1) = cu.take j ++ [v] := by
  rw [List.take_add_one, List.getElem?_set_self (by simpa using h), List.take_set_of_le (Nat.le_refl _)]
  rfl
theorem take_splice {cu cs : List Value} {j : Nat} (h : j ≤ cu.length) : (splice cu j cs).take (j + cs.length) = cu.take j ++ cs := by
  unfold splice
  rw [List.take_append, List.take_of_length_le (by rw [List.length_take]; omega), List.length_take, Nat.min_eq_left h, List.take_append, Nat.add_sub_cancel_left, List.take_of_length_le (Nat.le_refl _), Nat.sub_self, List.take_zero, List.append_nil]
/-- how often the first k of the four stand in a text -/
def cntK (l : List UInt8) : Nat → Nat
  | 0 => 0
  | 1 => l.count 9
  | 2 => l.count 9 + l.count 10
  | 3 => l.count 9 + l.count 10 + l.count 92
  | _ => l.count 9 + l.count 10 + l.count 92 + l.count 34
theorem below_drewN' (w : World) : ∀ n, Below w.heap.size w (w.drewN n)
  | 0 => Below.refl _ _
  | n + 1 => (below_drewN' w n).drew
theorem cntK_all (l : List UInt8) : (escL l).length = l.length + cntK l 4 := esc_count l
theorem count_le (l : List UInt8) (c : UInt8) : l.count c ≤ l.length := List.count_le_length
set_option maxRecDepth 100000 in
set_option maxHeartbeats 4000000 in
theorem repl_any (B r : Nat) (s : ByteArray) (w : World) (hR : RIn B w r escE escT) (hs : s.size ≤ 140737488351232) :
    Calls Tryz.prog 150 #[.pointer (some ⟨r, 0, none⟩), .string s] w fun e w' => e = .returned (.string ⟨(escL s.data.toList).toArray⟩) ∧ Below w.heap.size w w' := by
  have HR := Lib.hid hR
  obtain ⟨g, cap, ht, hcap, t0, t1, t2, t3⟩ := hR.text_at
  have hlen : s.data.toList.length = s.size := by simp
  have hbd := escN_bd s.data.toList s.data.toList.length (Nat.le_refl _)
  rw [escN_all, hlen] at hbd
  obtain ⟨M, hM⟩ : ∃ M, M = (escL s.data.toList).length := ⟨_, rfl⟩
  rw [← hM] at hbd
  have HM := Lib.hid hM
  obtain ⟨i5, hi, hz0, hz1, hz2⟩ := info_parts (P := Tryz.prog) (e := 5) (z := .int .u8 0) (size := 1) (bytes := 1) (by kernel_rfl)
  clear hR hM
  go_enter Tryz.func150, Tryz.ntmps150
  by_cases h32 : 32 ≤ s.size
  · have e32 : decide ((32 : Int) ≤ s.size) = true := by simp; omega
    go_wp2_with fail
    go_loopw [5, 6, 32] (fun n any i wr => ∃ k : Nat, k ≤ 4 ∧ i = .int .i64 k ∧ n = .int .i64 ((s.size + cntK s.data.toList k : Nat) : Int) ∧ any = .bool (decide (cntK s.data.toList k ≠ 0)) ∧ Below w.heap.size w wr) (fun _ _ i _ => 4 - (intOf i).toNat)
    case atStart => exact ⟨0, by omega, rfl, rfl, rfl, Below.refl _ _⟩
    case round =>
      obtain ⟨k, hk, rfl, rfl, rfl, hbw⟩ := hrel
      have HBW := Lib.hid hbw
      have hRw := HR.out.below (_B' := 0) hbw
      have t0' := (hbw.cell (p := ⟨g, 0, none⟩) (World.block_lt_of_cell? w _ t0)).trans t0
      have t1' := (hbw.cell (p := ⟨g, 1, none⟩) (World.block_lt_of_cell? w _ t1)).trans t1
      have t2' := (hbw.cell (p := ⟨g, 2, none⟩) (World.block_lt_of_cell? w _ t2)).trans t2
      have t3' := (hbw.cell (p := ⟨g, 3, none⟩) (World.block_lt_of_cell? w _ t3)).trans t3
      have hHR := Lib.hid hRw
      have hwz := hbw.size
      clear hbw hRw ht t0 t1 t2 t3
      by_cases hlt : k < 4
      · have hcases : k = 0 ∨ k = 1 ∨ k = 2 ∨ k = 3 := by omega
        rcases hcases with rfl | rfl | rfl | rfl
        · obtain ⟨ge, gc, hcell, hgc⟩ : ∃ ge gc, wr.cell? ⟨r, 9, none⟩ = some (.slice (some ⟨ge, 0, none⟩) 2 gc) ∧ 2 ≤ gc := by
            obtain ⟨ge, gc, h1, h2, _⟩ := hHR.out.some_at (c := 9) (q := [92, 116]) rfl
            exact ⟨ge, gc, h1, h2⟩
          have hb9 : (ByteArray.mk #[9])[0].toNat = 9 := rfl
          obtain ⟨c, hc⟩ : ∃ c, c = s.data.toList.count 9 := ⟨_, rfl⟩
          have hK : Hid (cntK s.data.toList 1 = cntK s.data.toList 0 + c) := Lib.hid (by rw [hc]; simp [cntK])
          obtain ⟨d, hd⟩ : ∃ d, cntK s.data.toList 0 = d := ⟨_, rfl⟩
          rw [hd] at hK ⊢
          have hdb : d ≤ 3 * s.size := by
            rw [← hd, ← hlen]
            have := count_le s.data.toList 9
            have := count_le s.data.toList 10
            have := count_le s.data.toList 92
            simp only [cntK]; omega
          have hcb : c ≤ s.size := by rw [hc, ← hlen]; exact count_le _ _
          have hct : Calls Tryz.prog 152 #[.string s, .string ⟨#[9]⟩] wr fun e w' => e = .returned (.int .i64 (c : Int)) ∧ w' = wr := by
            rw [hc]; exact Tryz.strings_Count_one s 9 wr
          have HCT := Lib.hid hct
          clear hct hc hd
          go_wp2_with fail
          refine HCT.out.mono ?_
          rintro e w2 ⟨rfl, rfl⟩
          by_cases hz : c = 0
          · have hz' : ((c : Int) != 0) = false := by simp [hz]
            have hz2 : ((c : Int) == 0) = true := by simp [hz]
            have HZ := Lib.hid hz
            clear hz
            go_wp2_with fail
            go_roundw
            case rel => exact ⟨1, by omega, rfl, by rw [hK.out, HZ.out]; rfl, by rw [hK.out, HZ.out]; simp, HBW.out⟩
            case measure => simp [intOf]
          · have hz' : ((c : Int) != 0) = true := by simp; omega
            have hz2 : ((c : Int) == 0) = false := by simp; omega
            have HZ := Lib.hid hz
            clear hz
            go_wp2_with fail
            go_quiet (fail)
            have HN := Lib.hid (HBW.out.trans ((below_drewN' w2 nq).mono hwz))
            go_wp2_with fail
            go_roundw
            case rel =>
              refine ⟨1, by omega, rfl, by rw [hK.out]; congr 1; omega, ?_, HN.out⟩
              have := HZ.out
              rw [hK.out, decide_eq_true (by omega)]
            case measure => simp [intOf]
        · obtain ⟨ge, gc, hcell, hgc⟩ : ∃ ge gc, wr.cell? ⟨r, 10, none⟩ = some (.slice (some ⟨ge, 0, none⟩) 2 gc) ∧ 2 ≤ gc := by
            obtain ⟨ge, gc, h1, h2, _⟩ := hHR.out.some_at (c := 10) (q := [92, 110]) rfl
            exact ⟨ge, gc, h1, h2⟩
          have hb9 : (ByteArray.mk #[10])[0].toNat = 10 := rfl
          obtain ⟨c, hc⟩ : ∃ c, c = s.data.toList.count 10 := ⟨_, rfl⟩
          have hK : Hid (cntK s.data.toList 2 = cntK s.data.toList 1 + c) := Lib.hid (by rw [hc]; simp [cntK])
          obtain ⟨d, hd⟩ : ∃ d, cntK s.data.toList 1 = d := ⟨_, rfl⟩
          rw [hd] at hK ⊢
          have hdb : d ≤ 3 * s.size := by
            rw [← hd, ← hlen]
            have := count_le s.data.toList 9
            have := count_le s.data.toList 10
            have := count_le s.data.toList 92
            simp only [cntK]; omega
          have hcb : c ≤ s.size := by rw [hc, ← hlen]; exact count_le _ _
          have hct : Calls Tryz.prog 152 #[.string s, .string ⟨#[10]⟩] wr fun e w' => e = .returned (.int .i64 (c : Int)) ∧ w' = wr := by
            rw [hc]; exact Tryz.strings_Count_one s 10 wr
          have HCT := Lib.hid hct
          clear hct hc hd
          go_wp2_with fail
          refine HCT.out.mono ?_
          rintro e w2 ⟨rfl, rfl⟩
          by_cases hz : c = 0
          · have hz' : ((c : Int) != 0) = false := by simp [hz]
            have hz2 : ((c : Int) == 0) = true := by simp [hz]
            have HZ := Lib.hid hz
            clear hz
            go_wp2_with fail
            go_roundw
            case rel => exact ⟨2, by omega, rfl, by rw [hK.out, HZ.out]; rfl, by rw [hK.out, HZ.out]; simp, HBW.out⟩
            case measure => simp [intOf]
          · have hz' : ((c : Int) != 0) = true := by simp; omega
            have hz2 : ((c : Int) == 0) = false := by simp; omega
            have HZ := Lib.hid hz
            clear hz
            go_wp2_with fail
            go_quiet (fail)
            have HN := Lib.hid (HBW.out.trans ((below_drewN' w2 nq).mono hwz))
            go_wp2_with fail
            go_roundw
            case rel =>
              refine ⟨2, by omega, rfl, by rw [hK.out]; congr 1; omega, ?_, HN.out⟩
              have := HZ.out
              rw [hK.out, decide_eq_true (by omega)]
            case measure => simp [intOf]
        · obtain ⟨ge, gc, hcell, hgc⟩ : ∃ ge gc, wr.cell? ⟨r, 92, none⟩ = some (.slice (some ⟨ge, 0, none⟩) 2 gc) ∧ 2 ≤ gc := by
            obtain ⟨ge, gc, h1, h2, _⟩ := hHR.out.some_at (c := 92) (q := [92, 92]) rfl
            exact ⟨ge, gc, h1, h2⟩
          have hb9 : (ByteArray.mk #[92])[0].toNat = 92 := rfl
          obtain ⟨c, hc⟩ : ∃ c, c = s.data.toList.count 92 := ⟨_, rfl⟩
          have hK : Hid (cntK s.data.toList 3 = cntK s.data.toList 2 + c) := Lib.hid (by rw [hc]; simp [cntK])
          obtain ⟨d, hd⟩ : ∃ d, cntK s.data.toList 2 = d := ⟨_, rfl⟩
          rw [hd] at hK ⊢
          have hdb : d ≤ 3 * s.size := by
            rw [← hd, ← hlen]
            have := count_le s.data.toList 9
            have := count_le s.data.toList 10
            have := count_le s.data.toList 92
            simp only [cntK]; omega
          have hcb : c ≤ s.size := by rw [hc, ← hlen]; exact count_le _ _
          have hct : Calls Tryz.prog 152 #[.string s, .string ⟨#[92]⟩] wr fun e w' => e = .returned (.int .i64 (c : Int)) ∧ w' = wr := by
            rw [hc]; exact Tryz.strings_Count_one s 92 wr
          have HCT := Lib.hid hct
          clear hct hc hd
          go_wp2_with fail
          refine HCT.out.mono ?_
          rintro e w2 ⟨rfl, rfl⟩
          by_cases hz : c = 0
          · have hz' : ((c : Int) != 0) = false := by simp [hz]
            have hz2 : ((c : Int) == 0) = true := by simp [hz]
            have HZ := Lib.hid hz
            clear hz
            go_wp2_with fail
            go_roundw
            case rel => exact ⟨3, by omega, rfl, by rw [hK.out, HZ.out]; rfl, by rw [hK.out, HZ.out]; simp, HBW.out⟩
            case measure => simp [intOf]
          · have hz' : ((c : Int) != 0) = true := by simp; omega
            have hz2 : ((c : Int) == 0) = false := by simp; omega
            have HZ := Lib.hid hz
            clear hz
            go_wp2_with fail
            go_quiet (fail)
            have HN := Lib.hid (HBW.out.trans ((below_drewN' w2 nq).mono hwz))
            go_wp2_with fail
            go_roundw
            case rel =>
              refine ⟨3, by omega, rfl, by rw [hK.out]; congr 1; omega, ?_, HN.out⟩
              have := HZ.out
              rw [hK.out, decide_eq_true (by omega)]
            case measure => simp [intOf]
        · obtain ⟨ge, gc, hcell, hgc⟩ : ∃ ge gc, wr.cell? ⟨r, 34, none⟩ = some (.slice (some ⟨ge, 0, none⟩) 2 gc) ∧ 2 ≤ gc := by
            obtain ⟨ge, gc, h1, h2, _⟩ := hHR.out.some_at (c := 34) (q := [92, 34]) rfl
            exact ⟨ge, gc, h1, h2⟩
          have hb9 : (ByteArray.mk #[34])[0].toNat = 34 := rfl
          obtain ⟨c, hc⟩ : ∃ c, c = s.data.toList.count 34 := ⟨_, rfl⟩
          have hK : Hid (cntK s.data.toList 4 = cntK s.data.toList 3 + c) := Lib.hid (by rw [hc]; simp [cntK])
          obtain ⟨d, hd⟩ : ∃ d, cntK s.data.toList 3 = d := ⟨_, rfl⟩
          rw [hd] at hK ⊢
          have hdb : d ≤ 3 * s.size := by
            rw [← hd, ← hlen]
            have := count_le s.data.toList 9
            have := count_le s.data.toList 10
            have := count_le s.data.toList 92
            simp only [cntK]; omega
          have hcb : c ≤ s.size := by rw [hc, ← hlen]; exact count_le _ _
          have hct : Calls Tryz.prog 152 #[.string s, .string ⟨#[34]⟩] wr fun e w' => e = .returned (.int .i64 (c : Int)) ∧ w' = wr := by
            rw [hc]; exact Tryz.strings_Count_one s 34 wr
          have HCT := Lib.hid hct
          clear hct hc hd
          go_wp2_with fail
          refine HCT.out.mono ?_
          rintro e w2 ⟨rfl, rfl⟩
          by_cases hz : c = 0
          · have hz' : ((c : Int) != 0) = false := by simp [hz]
            have hz2 : ((c : Int) == 0) = true := by simp [hz]
            have HZ := Lib.hid hz
            clear hz
            go_wp2_with fail
            go_roundw
            case rel => exact ⟨4, by omega, rfl, by rw [hK.out, HZ.out]; rfl, by rw [hK.out, HZ.out]; simp, HBW.out⟩
            case measure => simp [intOf]
          · have hz' : ((c : Int) != 0) = true := by simp; omega
            have hz2 : ((c : Int) == 0) = false := by simp; omega
            have HZ := Lib.hid hz
            clear hz
            go_wp2_with fail
            go_quiet (fail)
            have HN := Lib.hid (HBW.out.trans ((below_drewN' w2 nq).mono hwz))
            go_wp2_with fail
            go_roundw
            case rel =>
              refine ⟨4, by omega, rfl, by rw [hK.out]; congr 1; omega, ?_, HN.out⟩
              have := HZ.out
              rw [hK.out, decide_eq_true (by omega)]
            case measure => simp [intOf]
      · obtain rfl : k = 4 := by omega
        have hMc : s.size + cntK s.data.toList 4 = M := by rw [HM.out, cntK_all, hlen]
        have hcd : decide (cntK s.data.toList 4 ≠ 0) = decide (M ≠ s.size) := by
          rw [Bool.eq_iff_iff]; simp; omega
        rw [hMc, hcd]
        obtain ⟨V, hV⟩ : ∃ V, V = wr := ⟨_, rfl⟩
        subst hV
        have HV := HBW
        have HRV := hHR
        have hVz := hwz
        clear HBW hHR hwz t0' t1' t2' t3'
        by_cases hne : M = s.size
        · have hfin := Lib.hid (show s = ⟨(escL s.data.toList).toArray⟩ by rw [escL_same _ (by rw [← HM.out, hne]; simp)])
          rw [decide_eq_false (by simp [hne])]
          go_wp2_with fail
          go_ret
          exact ⟨ret_str hfin.out, HV.out⟩
        · rw [decide_eq_true hne]
          go_wp2_with (at_make; refine wpList_make_full _ rfl _ _ 61 rfl V.heap.size 5 i5 _ 1 Tryz.underlying61 hi hz0 hz1 .i64 .i64 (M : Int) (M : Int) M rfl rfl rfl rfl (by rw [hz2]; omega) (by unfold maxLen; omega) (Nat.le_refl _) ?_)
          intro w1 hown hgrow
          have hw1 : Below V.heap.size V w1 := (Below.refl _ _).grown hgrow (Nat.le_refl _) (fun k e => by cases e)
          obtain ⟨cur, hcur, hsz⟩ : ∃ cur : List Value, w1.heap[V.heap.size]? = some (.cells cur.toArray 5 (0, 0)) ∧ cur.length = M := by
            rcases hown.2 with ⟨h1, _⟩ | ⟨g1, c1, cu, h1, _, h2, _, _, h3, _⟩
            · cases h1
            · cases h1
              exact ⟨cu.toList, h2, by rw [Array.length_toList]; simpa using h3⟩
          have HB1 := Lib.hid hw1
          have HC1 := Lib.hid hcur
          have hzw1 := hw1.size
          clear hw1 hcur hown hgrow
          go_wp2_with fail
          go_loopw [13, 14] (fun j i wr => ∃ (k : Nat) (cu : List Value), k ≤ s.size ∧ i = .int .i64 k ∧ j = .int .i64 (escN s.data.toList k) ∧ Below V.heap.size V wr ∧ wr.heap[V.heap.size]? = some (.cells cu.toArray 5 (0, 0)) ∧ cu.length = M ∧ cu.take (escN s.data.toList k) = bytesV (escL (s.data.toList.take k))) (fun _ i _ => s.size - (intOf i).toNat)
          case atStart => exact ⟨0, cur, Nat.zero_le _, rfl, by rw [escN_zero]; rfl, HB1.out, HC1.out, hsz, by rw [escN_zero]; simp [escL, bytesV]⟩
          case round =>
            obtain ⟨k, cu, hk, rfl, rfl, hbw, hcu, hcl, htk⟩ := hrel
            have HBW := Lib.hid hbw
            have HCU := Lib.hid hcu
            have HTK := Lib.hid htk
            have hwz := hbw.size
            clear hbw hcu htk
            by_cases hlt : k < s.size
            · have hlt' : k < s.data.toList.length := by omega
              have hsucc := escN_succ hlt'
              have hle := escN_le (l := s.data.toList) (k := k + 1) (by omega)
              rw [← HM.out] at hle
              have htksucc := Lib.hid (escL_succ hlt')
              rw [get_eq hlt] at hsucc htksucc
              have hkb := escN_bd s.data.toList k (by omega)
              have hb256 : ((s[k].toNat : Nat) : Int) < 256 := by have := UInt8.toNat_lt s[k]; omega
              have hRw := HRV.out.below (_B' := 0) HBW.out
              cases he : escE s[k].toNat with
              | none =>
                have hcell := hRw.none_at he
                rw [escB_none he] at hsucc htksucc
                simp only [List.length_singleton] at hsucc
                have HS := Lib.hid hsucc
                clear hsucc hRw
                have hjm : escN s.data.toList k < M := by have := HS.out; omega
                have hcj : wr.cell? ⟨V.heap.size, escN s.data.toList k, none⟩ = cu[escN s.data.toList k]? := by simp [World.cell?, HCU.out]
                rw [List.getElem?_eq_getElem (by omega)] at hcj
                have hfj : wr.frozen? ⟨V.heap.size, escN s.data.toList k, none⟩ = false := by simp [World.frozen?, HCU.out]
                go_wp2_with fail
                go_roundw
                case rel =>
                  refine ⟨k + 1, cu.set (escN s.data.toList k) (.int .u8 (s[k].toNat : Int)), by omega, by go_num, by rw [HS.out]; go_num, HBW.out.setCell (p := ⟨V.heap.size, escN s.data.toList k, none⟩) (Nat.le_refl _) _, put_cell HCU.out, by rw [List.length_set]; exact hcl, ?_⟩
                  rw [HS.out, take_set (by omega), HTK.out, htksucc.out]
                  simp [bytesV]
                case measure => simp [intOf]; omega
              | some q =>
                obtain ⟨ge, gc, hcell, hgc, hgl, hbytes⟩ := hRw.some_at he
                have hq := escE_len he
                rw [escB_some he, hq] at hsucc
                rw [escB_some he] at htksucc
                have HS := Lib.hid hsucc
                have HBY := Lib.hid hbytes
                clear hsucc hRw hbytes
                have hjm : escN s.data.toList k + 2 ≤ M := by have := HS.out; omega
                have hjm2 : ((escN s.data.toList k : Nat) : Int) ≤ M := by omega
                go_wp2_with fail
                have hcul : escN s.data.toList k + (bytesV q).length ≤ cu.length := by rw [show (bytesV q).length = 2 by simp [bytesV, hq]]; omega
                have hql : (bytesV q).length = 2 := by simp [bytesV, hq]
                have hone : ∀ v ∈ bytesV q, v.oneCell' = true := by
                  intro v hv
                  unfold bytesV at hv
                  obtain ⟨u, _, rfl⟩ := List.mem_map.1 hv
                  rfl
                have hjne : ¬ M = escN s.data.toList k := by omega
                have hmin : (bytesV q).length = Nat.min 2 (M - escN s.data.toList k) := by rw [hql]; exact (Nat.min_eq_left (by omega)).symm
                go_region_law (refine step_copy_splice rfl (.tmp 105) (.tmp 111) 61 61 rfl 5 Tryz.underlying61 (by kernel_rfl) _ _ _ _ _ _ rfl rfl V.heap.size (escN s.data.toList k) cu 5 HCU.out (bytesV q) hmin (fun _ => ⟨by first | rfl | exact if_neg hjne, ⟨ge, 0, none⟩, rfl, fun j v hv => by rw [Addr.add_mid, Nat.zero_add]; exact HBY.out j v hv⟩) hcul hone V.heap.size V HBW.out.drew (Nat.le_refl _) ?_; intro w4 hg4 hb4)
                have hov2 : ((escN s.data.toList k : Nat) : Int) + 2 ≤ 9223372036854775807 := by omega
                have HB4 := Lib.hid hb4
                clear hb4
                go_wp2_with fail
                go_roundw
                case rel =>
                  refine ⟨k + 1, splice cu (escN s.data.toList k) (bytesV q), by omega, by go_num, by rw [HS.out]; go_num, HB4.out, hg4.out, by rw [length_splice _ _ _ hcul]; exact hcl, ?_⟩
                  have h2 := take_splice (cu := cu) (cs := bytesV q) (j := escN s.data.toList k) (by omega)
                  rw [hql] at h2
                  rw [HS.out, h2, HTK.out, htksucc.out]
                  simp [bytesV]
                case measure => simp [intOf]; omega
            · have hkk : k = s.data.toList.length := by omega
              have hall : cu = bytesV (escL s.data.toList) := by
                have h1 := HTK.out
                rw [hkk, escN_all, ← HM.out, List.take_of_length_le (by omega), List.take_length] at h1
                exact h1
              have hcv : (convert 61 9 (.slice (some ⟨V.heap.size, 0, none⟩) M M)).run Tryz.prog wr = .ok (.string ⟨(escL s.data.toList).toArray⟩) wr := by
                have h1 := run_convert_bytes_back (P := Tryz.prog) wr 61 9 5 ⟨V.heap.size, 0, none⟩ M (escL s.data.toList) Tryz.underlying61 Tryz.underlying5 Tryz.underlying9 (by
                  intro j hj
                  rw [Addr.add_mid, Nat.zero_add]
                  have h2 := HCU.out
                  rw [hall] at h2
                  simp [World.cell?, h2, bytesV, hj])
                rw [← HM.out] at h1
                exact h1
              go_wp2_with fail
              go_ret
              exact ⟨rfl, HV.out.trans (HBW.out.mono hVz)⟩
  · have e32 : decide ((32 : Int) ≤ s.size) = false := by simp; omega
    go_wp2_with fail
    clear ht t0 t1 t2 t3
    go_loop [5, 6, 10] (fun n any i => ∃ k : Nat, k ≤ s.size ∧ i = .int .i64 k ∧ n = .int .i64 ((s.size + (escN s.data.toList k - k) : Nat) : Int) ∧ any = .bool (decide (escN s.data.toList k ≠ k))) (fun _ _ i => s.size - (intOf i).toNat)
    case atStart => exact ⟨0, Nat.zero_le _, rfl, by rw [escN_zero]; rfl, by rw [escN_zero]; rfl⟩
    case round =>
      obtain ⟨k, hk, rfl, rfl, rfl⟩ := hrel
      by_cases hlt : k < s.size
      · have hlt' : k < s.data.toList.length := by omega
        have hsucc := escN_succ hlt'
        rw [get_eq hlt] at hsucc
        have hkb := escN_bd s.data.toList k (by omega)
        have hb256 : ((s[k].toNat : Nat) : Int) < 256 := by have := UInt8.toNat_lt s[k]; omega
        cases he : escE s[k].toNat with
        | none =>
          have hcell := HR.out.none_at he
          rw [escB_none he] at hsucc
          have HS := Lib.hid hsucc
          clear hsucc
          go_wp2_with fail
          go_round
          case rel =>
            have h1 := HS.out
            simp only [List.length_singleton] at h1
            exact ⟨k + 1, by omega, by go_num, by rw [h1]; congr 2; omega, by rw [h1]; congr 1; simp⟩
          case measure => simp [intOf]; omega
        | some q =>
          obtain ⟨ge, gc, hcell, hgc, hgl, hbytes⟩ := HR.out.some_at he
          rw [escB_some he, escE_len he] at hsucc
          have HS := Lib.hid hsucc
          clear hsucc hbytes
          have hov : ((s.size + (escN s.data.toList k - k) : Nat) : Int) + 1 ≤ 9223372036854775807 := by omega
          go_wp2_with fail
          go_round
          case rel =>
            have h1 := HS.out
            refine ⟨k + 1, by omega, by go_num, by rw [h1]; congr 1; omega, ?_⟩
            rw [h1, decide_eq_true (by omega)]
          case measure => simp [intOf]; omega
      · have hkM : escN s.data.toList k = M := by rw [show k = s.data.toList.length by omega, escN_all]; exact HM.out.symm
        rw [hkM, show ((s.size + (M - k) : Nat) : Int) = (M : Int) by omega, show k = s.size by omega]
        by_cases hne : M = s.size
        · have hfin := Lib.hid (show s = ⟨(escL s.data.toList).toArray⟩ by rw [escL_same _ (by rw [← HM.out, hne]; simp)])
          rw [decide_eq_false (by simp [hne])]
          go_wp2_with fail
          go_ret
          exact ⟨ret_str hfin.out, Below.refl _ _⟩
        · rw [decide_eq_true hne]
          go_wp2_with (at_make; refine wpList_make_full _ rfl _ _ 61 rfl w.heap.size 5 i5 _ 1 Tryz.underlying61 hi hz0 hz1 .i64 .i64 (M : Int) (M : Int) M rfl rfl rfl rfl (by rw [hz2]; omega) (by unfold maxLen; omega) (Nat.le_refl _) ?_)
          intro w1 hown hgrow
          have hw1 : Below w.heap.size w w1 := (Below.refl _ _).grown hgrow (Nat.le_refl _) (fun k e => by cases e)
          obtain ⟨cur, hcur, hsz⟩ : ∃ cur : List Value, w1.heap[w.heap.size]? = some (.cells cur.toArray 5 (0, 0)) ∧ cur.length = M := by
            rcases hown.2 with ⟨h1, _⟩ | ⟨g1, c1, cu, h1, _, h2, _, _, h3, _⟩
            · cases h1
            · cases h1
              exact ⟨cu.toList, h2, by rw [Array.length_toList]; simpa using h3⟩
          have HB1 := Lib.hid hw1
          have HC1 := Lib.hid hcur
          have hzw1 := hw1.size
          clear hw1 hcur hown hgrow
          go_wp2_with fail
          go_loopw [13, 14] (fun j i wr => ∃ (k : Nat) (cu : List Value), k ≤ s.size ∧ i = .int .i64 k ∧ j = .int .i64 (escN s.data.toList k) ∧ Below w.heap.size w wr ∧ wr.heap[w.heap.size]? = some (.cells cu.toArray 5 (0, 0)) ∧ cu.length = M ∧ cu.take (escN s.data.toList k) = bytesV (escL (s.data.toList.take k))) (fun _ i _ => s.size - (intOf i).toNat)
          case atStart => exact ⟨0, cur, Nat.zero_le _, rfl, by rw [escN_zero]; rfl, HB1.out, HC1.out, hsz, by rw [escN_zero]; simp [escL, bytesV]⟩
          case round =>
            obtain ⟨k, cu, hk, rfl, rfl, hbw, hcu, hcl, htk⟩ := hrel
            have HBW := Lib.hid hbw
            have HCU := Lib.hid hcu
            have HTK := Lib.hid htk
            have hwz := hbw.size
            clear hbw hcu htk
            by_cases hlt : k < s.size
            · have hlt' : k < s.data.toList.length := by omega
              have hsucc := escN_succ hlt'
              have hle := escN_le (l := s.data.toList) (k := k + 1) (by omega)
              rw [← HM.out] at hle
              have htksucc := Lib.hid (escL_succ hlt')
              rw [get_eq hlt] at hsucc htksucc
              have hkb := escN_bd s.data.toList k (by omega)
              have hb256 : ((s[k].toNat : Nat) : Int) < 256 := by have := UInt8.toNat_lt s[k]; omega
              have hRw := HR.out.below (_B' := 0) HBW.out
              cases he : escE s[k].toNat with
              | none =>
                have hcell := hRw.none_at he
                rw [escB_none he] at hsucc htksucc
                simp only [List.length_singleton] at hsucc
                have HS := Lib.hid hsucc
                clear hsucc hRw
                have hjm : escN s.data.toList k < M := by have := HS.out; omega
                have hcj : wr.cell? ⟨w.heap.size, escN s.data.toList k, none⟩ = cu[escN s.data.toList k]? := by simp [World.cell?, HCU.out]
                rw [List.getElem?_eq_getElem (by omega)] at hcj
                have hfj : wr.frozen? ⟨w.heap.size, escN s.data.toList k, none⟩ = false := by simp [World.frozen?, HCU.out]
                go_wp2_with fail
                go_roundw
                case rel =>
                  refine ⟨k + 1, cu.set (escN s.data.toList k) (.int .u8 (s[k].toNat : Int)), by omega, by go_num, by rw [HS.out]; go_num, HBW.out.setCell (p := ⟨w.heap.size, escN s.data.toList k, none⟩) (Nat.le_refl _) _, put_cell HCU.out, by rw [List.length_set]; exact hcl, ?_⟩
                  rw [HS.out, take_set (by omega), HTK.out, htksucc.out]
                  simp [bytesV]
                case measure => simp [intOf]; omega
              | some q =>
                obtain ⟨ge, gc, hcell, hgc, hgl, hbytes⟩ := hRw.some_at he
                have hq := escE_len he
                rw [escB_some he, hq] at hsucc
                rw [escB_some he] at htksucc
                have HS := Lib.hid hsucc
                have HBY := Lib.hid hbytes
                clear hsucc hRw hbytes
                have hjm : escN s.data.toList k + 2 ≤ M := by have := HS.out; omega
                have hjm2 : ((escN s.data.toList k : Nat) : Int) ≤ M := by omega
                go_wp2_with fail
                have hcul : escN s.data.toList k + (bytesV q).length ≤ cu.length := by rw [show (bytesV q).length = 2 by simp [bytesV, hq]]; omega
                have hql : (bytesV q).length = 2 := by simp [bytesV, hq]
                have hone : ∀ v ∈ bytesV q, v.oneCell' = true := by
                  intro v hv
                  unfold bytesV at hv
                  obtain ⟨u, _, rfl⟩ := List.mem_map.1 hv
                  rfl
                have hjne : ¬ M = escN s.data.toList k := by omega
                have hmin : (bytesV q).length = Nat.min 2 (M - escN s.data.toList k) := by rw [hql]; exact (Nat.min_eq_left (by omega)).symm
                go_region_law (refine step_copy_splice rfl (.tmp 105) (.tmp 111) 61 61 rfl 5 Tryz.underlying61 (by kernel_rfl) _ _ _ _ _ _ rfl rfl w.heap.size (escN s.data.toList k) cu 5 HCU.out (bytesV q) hmin (fun _ => ⟨by first | rfl | exact if_neg hjne, ⟨ge, 0, none⟩, rfl, fun j v hv => by rw [Addr.add_mid, Nat.zero_add]; exact HBY.out j v hv⟩) hcul hone w.heap.size w HBW.out.drew (Nat.le_refl _) ?_; intro w4 hg4 hb4)
                have hov2 : ((escN s.data.toList k : Nat) : Int) + 2 ≤ 9223372036854775807 := by omega
                have HB4 := Lib.hid hb4
                clear hb4
                go_wp2_with fail
                go_roundw
                case rel =>
                  refine ⟨k + 1, splice cu (escN s.data.toList k) (bytesV q), by omega, by go_num, by rw [HS.out]; go_num, HB4.out, hg4.out, by rw [length_splice _ _ _ hcul]; exact hcl, ?_⟩
                  have h2 := take_splice (cu := cu) (cs := bytesV q) (j := escN s.data.toList k) (by omega)
                  rw [hql] at h2
                  rw [HS.out, h2, HTK.out, htksucc.out]
                  simp [bytesV]
                case measure => simp [intOf]; omega
            · have hkk : k = s.data.toList.length := by omega
              have hall : cu = bytesV (escL s.data.toList) := by
                have h1 := HTK.out
                rw [hkk, escN_all, ← HM.out, List.take_of_length_le (by omega), List.take_length] at h1
                exact h1
              have hcv : (convert 61 9 (.slice (some ⟨w.heap.size, 0, none⟩) M M)).run Tryz.prog wr = .ok (.string ⟨(escL s.data.toList).toArray⟩) wr := by
                have h1 := run_convert_bytes_back (P := Tryz.prog) wr 61 9 5 ⟨w.heap.size, 0, none⟩ M (escL s.data.toList) Tryz.underlying61 Tryz.underlying5 Tryz.underlying9 (by
                  intro j hj
                  rw [Addr.add_mid, Nat.zero_add]
                  have h2 := HCU.out
                  rw [hall] at h2
                  simp [World.cell?, h2, bytesV, hj])
                rw [← HM.out] at h1
                exact h1
              go_wp2_with fail
              go_ret
              exact ⟨rfl, HBW.out⟩
end Go.Proofs.YtnddcicadmbmkaaGreatDoor
