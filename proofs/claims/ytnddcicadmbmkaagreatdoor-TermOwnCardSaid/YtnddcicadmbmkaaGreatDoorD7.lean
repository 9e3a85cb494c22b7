/- A constructor's value by numbers: key's walk with put (printed by genkey.py). -/
import Derived.Test.YtnddcicadmbmkaaGreatDoorD6
namespace Go.Proofs.YtnddcicadmbmkaaGreatDoor
open Go.RowKit Go.Maps

set_option maxRecDepth 100000 in
set_option maxHeartbeats 4000000 in
theorem key_put (g : V → St → Int × Int × St) (v : V) (x : Value) (m : Nat) (P : Nat → Prop) (st : St) (rb nb : Option Nat) (w : World) (hst : Stor w m st rb nb) (hx : IsVP P w v x) (hfar : Far P w m rb nb) (hok : v.Ok) (h8 : v.ps.length ≤ 8)
    (hput : ∀ y ∈ v.ps, ∀ (z : Value) (st : St) (rb nb : Option Nat) (w : World), Stor w m st rb nb → IsVP P w y z → Far P w m rb nb → Calls Tryz.prog 41 #[.pointer (some ⟨m + 3, 0, none⟩), z] w (GPost g m y st rb nb w)) :
    Calls Tryz.prog 61 #[.pointer (some ⟨m + 3, 0, none⟩), x, .func (.func 41) #[.pointer (some ⟨m + 3, 0, none⟩)] #[]] w fun e w' =>
      ∃ q, e = .returned (.tuple #[.agg (ndP v.s v.ps.length q), .int .i64 (foldVs g v.ps st).2.1]) ∧ ((foldVs g v.ps st).2.1 = 0 → q = (foldVs g v.ps st).1) ∧
      ∃ rb' nb', Stor w' m (foldVs g v.ps st).2.2 rb' nb' ∧ Later w.heap.size rb rb' ∧ Later w.heap.size nb nb' ∧ Sy.Fr (SFoot m rb nb) w w' := by
  have HX := Lib.hid hx
  have HFAR := Lib.hid hfar
  obtain ⟨a, cap, rfl, hcap, hel⟩ := hx.open
  have hlen := ok_len hok
  have HOK := Lib.hid hok
  have HE := Lib.hid hel
  have HP := Lib.hid hput
  have HST := Lib.hid hst
  have hrows := hst.rows
  clear hx hel hok hput hst hfar
  go_enter Tryz.func61, Tryz.ntmps61
  go_wp2_with fail
  obtain ⟨W0, hW0⟩ : ∃ W0, W0 = ((w.alloc (.cells #[.int .i64 v.k, .int .i64 v.n, .string v.s, .slice a v.ps.length cap] 24)).alloc (.cells #[.string ⟨#[]⟩, .int .i64 0, .int .i64 0, .int .i64 0, .int .i64 0, .int .i64 0, .int .i64 0, .int .i64 0, .int .i64 0, .int .i64 0, .int .i64 0, .int .i64 0, .int .i64 0, .int .i64 0, .int .i64 0, .int .i64 0, .int .i64 0, .int .i64 0] 77)).alloc (.cells #[.string v.s, .int .i64 v.ps.length, .int .i64 0, .int .i64 0, .int .i64 0, .int .i64 0, .int .i64 0, .int .i64 0, .int .i64 0, .int .i64 0, .int .i64 0, .int .i64 0, .int .i64 0, .int .i64 0, .int .i64 0, .int .i64 0, .int .i64 0, .int .i64 0] 77) := ⟨_, rfl⟩
  obtain ⟨hz0, hB0, hb0, hb1, hb2⟩ := three_new w (.cells #[.int .i64 v.k, .int .i64 v.n, .string v.s, .slice a v.ps.length cap] 24) (.cells #[.string ⟨#[]⟩, .int .i64 0, .int .i64 0, .int .i64 0, .int .i64 0, .int .i64 0, .int .i64 0, .int .i64 0, .int .i64 0, .int .i64 0, .int .i64 0, .int .i64 0, .int .i64 0, .int .i64 0, .int .i64 0, .int .i64 0, .int .i64 0, .int .i64 0] 77) (.cells #[.string v.s, .int .i64 v.ps.length, .int .i64 0, .int .i64 0, .int .i64 0, .int .i64 0, .int .i64 0, .int .i64 0, .int .i64 0, .int .i64 0, .int .i64 0, .int .i64 0, .int .i64 0, .int .i64 0, .int .i64 0, .int .i64 0, .int .i64 0, .int .i64 0] 77)
  rw [← hW0] at hz0 hB0 hb0 hb1 hb2
  have hb1 : W0.heap[w.heap.size + 1]? = some (.cells (ndP ⟨#[]⟩ 0 []) 77 (0, 0)) := hb1
  have hb2 : W0.heap[w.heap.size + 1 + 1]? = some (.cells (ndP v.s v.ps.length []) 77 (0, 0)) := hb2
  rw [← hW0]
  have HST0 := Lib.hid (stor_new HST.out hB0)
  have HF0 := Lib.hid (Sy.Fr.of_below (S := SFoot m rb nb) hB0)
  have Hb0 := Lib.hid hb0
  have Hb1 := Lib.hid hb1
  have Hb2 := Lib.hid hb2
  clear hW0 hB0 hb0 hb1 hb2
  go_loopw [22] (fun i wr => ∃ (k : Nat) (d : List (Int × Int)) (stk : St) (rbk nbk : Option Nat), k ≤ v.ps.length ∧ i = .int .i64 k ∧ d.length = k ∧ Stor wr m stk rbk nbk ∧ Later w.heap.size rb rbk ∧ Later w.heap.size nb nbk ∧ Sy.Fr (SFoot m rb nb) w wr ∧ w.heap.size + 3 ≤ wr.heap.size ∧
      wr.heap[w.heap.size]? = some (.cells #[.int .i64 v.k, .int .i64 v.n, .string v.s, .slice a v.ps.length cap] 24 (0, 0)) ∧ wr.heap[w.heap.size + 1]? = some (.cells (ndP ⟨#[]⟩ 0 []) 77 (0, 0)) ∧ wr.heap[w.heap.size + 1 + 1]? = some (.cells (ndP v.s v.ps.length d) 77 (0, 0)) ∧
      (∀ j, w.heap.size ≤ j → j < w.heap.size + 3 → ¬ SFoot m rbk nbk j) ∧
      foldVs g v.ps st = (d ++ (foldVs g (v.ps.drop k) stk).1, (foldVs g (v.ps.drop k) stk).2.1, (foldVs g (v.ps.drop k) stk).2.2)) (fun i _ => v.ps.length - (intOf i).toNat)
  case atStart => exact ⟨0, [], st, rb, nb, Nat.zero_le _, rfl, rfl, HST0.out, .inl rfl, .inl rfl, HF0.out, by omega, Hb0.out, Hb1.out, Hb2.out, fun j hj _ => HST.out.apart hj, rfl⟩
  case round =>
    obtain ⟨k, d, stk, rbk, nbk, hk, rfl, hd, hsk, hlr, hln, hfr, hsz, hk0, hk1, hk2, hap, hfold⟩ := hrel
    have HSK := Lib.hid hsk
    have HLR := Lib.hid hlr
    have HLN := Lib.hid hln
    have HFR := Lib.hid hfr
    have HK0 := Lib.hid hk0
    have HK1 := Lib.hid hk1
    have HK2 := Lib.hid hk2
    have HAP := Lib.hid hap
    have HFO := Lib.hid hfold
    have hBw := Lib.hid (HFAR.out.later hfr.size hlr hln)
    have hFx := Lib.hid hfr
    clear hsk hlr hln hfr hk0 hk1 hk2 hap hfold
    by_cases hlt : k < v.ps.length
    · obtain ⟨be, off, rfl, hbB, hels⟩ := HE.out.resolve_left (by intro e; rw [e] at hlt; simp at hlt)
      obtain ⟨sl, e0, e1, e2, e3, hsub⟩ := (hels.kept hbB HFAR.out hFx.out).at hlt
      obtain ⟨a2, cap2, rfl⟩ := subP_slice hsub
      have HS := Lib.hid (subP_isV hsub)
      have hm := Lib.hid (nthV_mem hlt)
      clear hsub hels
      obtain ⟨W2, hW2⟩ : ∃ W2, W2 = wr.alloc (.cells #[.int .i64 (nthV v.ps k).k, .int .i64 (nthV v.ps k).n, .string (nthV v.ps k).s, .slice a2 (nthV v.ps k).ps.length cap2] 24) := ⟨_, rfl⟩
      have hB2 : Below wr.heap.size wr W2 := by rw [hW2]; exact (Below.refl _ _).alloc (Nat.le_refl _) _
      have hb2 : W2.heap[wr.heap.size]? = some (.cells #[.int .i64 (nthV v.ps k).k, .int .i64 (nthV v.ps k).n, .string (nthV v.ps k).s, .slice a2 (nthV v.ps k).ps.length cap2] 24 (0, 0)) := by rw [hW2]; exact heap_alloc_new _ _
      have HB2 := Lib.hid hB2
      have Hb2' := Lib.hid hb2
      have hz2 : wr.heap.size < W2.heap.size := heap_lt hb2
      clear hB2 hb2
      go_wp2_with fail
      rw [← hW2]
      clear hW2 e0 e1 e2 e3
      refine (HP.out _ hm.out _ stk rbk nbk W2 (stor_new HSK.out HB2.out) (HS.out.below hBw.out HB2.out) (hBw.out.size HB2.out.size)).mono ?_
      rintro e W3 ⟨rfl, rb', nb', hst3, hl1, hl2, hfr3⟩
      have hfd := fold_drop g hlt stk
      have hb3 := fr_block hfr3 Hb2'.out (HSK.out.apart (Nat.le_refl _))
      have hk0' := fr_block hfr3 ((HB2.out.block _ (by omega)).trans HK0.out) (HAP.out _ (Nat.le_refl _) (by omega))
      have hk1' := fr_block hfr3 ((HB2.out.block _ (by omega)).trans HK1.out) (HAP.out _ (by omega) (by omega))
      have hk2' := fr_block hfr3 ((HB2.out.block _ (by omega)).trans HK2.out) (HAP.out _ (by omega) (by omega))
      have hz3 := hfr3.size
      have HAP3 := Lib.hid (show ∀ j, w.heap.size ≤ j → j < w.heap.size + 3 → ¬ SFoot m rb' nb' j from fun j h1 h2 h3 => by
        rcases foot_later hl1 hl2 h3 with h | h
        · exact HAP.out j h1 h2 h
        · omega)
      have HLR3 := Lib.hid (HLR.out.trans hl1 (by omega))
      have HLN3 := Lib.hid (HLN.out.trans hl2 (by omega))
      have HFR3 := Lib.hid (fr_later HFR.out HLR.out HLN.out (fr_new HB2.out hfr3))
      have HST3 := Lib.hid hst3
      have HK03 := Lib.hid hk0'
      have HK13 := Lib.hid hk1'
      have HK23 := Lib.hid hk2'
      have HB3 := Lib.hid hb3
      clear hst3 hl1 hl2 hfr3 hb3 hk0' hk1' hk2'
      obtain ⟨er, her⟩ : ∃ er, (g (nthV v.ps k) stk).2.1 = er := ⟨_, rfl⟩
      obtain ⟨nm, hnm⟩ : ∃ nm, (g (nthV v.ps k) stk).1 = nm := ⟨_, rfl⟩
      rw [her, hnm] at hfd
      rw [her, hnm]
      have HFD := Lib.hid hfd
      clear hfd her hnm
      by_cases he : er = 0
      · have he1 : (er != 0) = false := by simp [he]
        have he2 : (er == 0) = true := by simp [he]
        have HEZ := Lib.hid he
        clear he
        obtain ⟨c0, c1, c2, c3⟩ := block4 HB3.out
        obtain ⟨u1, hn1⟩ : ∃ u, W3.cell? ⟨w.heap.size + 1 + 1, 2 + k * 2, none⟩ = some u := by
          rw [cell_of HK23.out, Array.getElem?_eq_getElem (by rw [ndP_size]; omega)]; exact ⟨_, rfl⟩
        obtain ⟨u2, hn2⟩ : ∃ u, W3.cell? ⟨w.heap.size + 1 + 1, 2 + k * 2 + 1, none⟩ = some u := by
          rw [cell_of HK23.out, Array.getElem?_eq_getElem (by rw [ndP_size]; omega)]; exact ⟨_, rfl⟩
        have hn3 := free_of (j := 2 + k * 2) HK23.out
        have hn4 := free_of (j := 2 + k * 2 + 1) HK23.out
        have hk8 : k < 8 := by omega
        go_wp2_with fail
        go_roundw
        case rel =>
          have hfd := HFD.out
          rw [if_neg (by simp [HEZ.out])] at hfd
          refine ⟨k + 1, d ++ [((nthV v.ps k).k, nm)], (g (nthV v.ps k) stk).2.2, rb', nb', by omega, by go_num, by simp [hd], ?_, HLR3.out, HLN3.out, ?_, by simp [World.setCell]; omega, ?_, ?_, ?_, HAP3.out, ?_⟩
          · exact HST3.out.kept ((Sy.Fr.of_setCell (S := fun j => j = w.heap.size + 1 + 1) W3 (p := ⟨w.heap.size + 1 + 1, 2 + k * 2, none⟩) rfl _).trans (Sy.Fr.of_setCell (S := fun j => j = w.heap.size + 1 + 1) _ (p := ⟨w.heap.size + 1 + 1, 2 + k * 2 + 1, none⟩) rfl _)) (fun j hj e => HAP3.out j (by omega) (by omega) hj)
          · exact fr_extra HFR3.out ((Sy.Fr.of_setCell (S := fun j => w.heap.size ≤ j) W3 (p := ⟨w.heap.size + 1 + 1, 2 + k * 2, none⟩) (by show w.heap.size ≤ w.heap.size + 1 + 1; omega) _).trans (Sy.Fr.of_setCell (S := fun j => w.heap.size ≤ j) _ (p := ⟨w.heap.size + 1 + 1, 2 + k * 2 + 1, none⟩) (by show w.heap.size ≤ w.heap.size + 1 + 1; omega) _))
          · rw [Below.heap_setCell _ _ _ _ (by simp; omega), Below.heap_setCell _ _ _ _ (by simp; omega)]; exact HK03.out
          · rw [Below.heap_setCell _ _ _ _ (by simp), Below.heap_setCell _ _ _ _ (by simp)]; exact HK13.out
          · rw [set_block (set_block HK23.out), ← ndP_set v.s v.ps.length d _ _ (by omega), hd]
          · rw [HFO.out, hfd]; simp
        case measure => simp [intOf]; omega
      · have he1 : (er != 0) = true := by simp [he]
        have he2 : (er == 0) = false := by simp [he]
        have HEZ := Lib.hid he
        clear he
        have hrg := range_of HK23.out
        have hth := there_of HK13.out
        have hz77 : (Tryz.prog.info? 77).map (·.size) = some (ndP v.s v.ps.length d).toList.length := by rw [Array.length_toList, ndP_size]; exact size77
        have hz77' : (Tryz.prog.info? 77).map (·.size) = some (ndP v.s v.ps.length d).size := by rw [ndP_size]; exact size77
        have hone := all_oneCell_toArray (ndP_one v.s v.ps.length d)
        go_wp2_with (first | (refine wpList_load_mid rfl 77 _ rfl (w.heap.size + 1 + 1) 0 rfl (ndP v.s v.ps.length d).toList _ hrg Tryz.underlying77 rfl hz77 ?_) | (refine wpList_store_mid rfl 77 _ _ rfl (w.heap.size + 1) 0 (ndP v.s v.ps.length d) rfl rfl hth hz77' hone ?_))
        refine bodyPost_ret (v := .tuple #[.agg (ndP v.s v.ps.length d), .int .i64 er]) (key_end rfl rfl hth) rfl ?_
        have hfd := HFD.out
        rw [if_pos HEZ.out] at hfd
        refine ⟨d, ?_, ?_, rb', nb', ?_, HLR3.out, HLN3.out, ?_⟩
        · rw [HFO.out, hfd]
        · intro h; rw [HFO.out, hfd] at h; exact absurd h HEZ.out
        · rw [HFO.out, hfd]
          exact HST3.out.kept (fr_setCells (S := fun j => j = w.heap.size + 1) rfl _ 0 W3) (fun j hj e => HAP3.out j (by omega) (by omega) hj)
        · exact fr_extra HFR3.out (fr_setCells (S := fun j => w.heap.size ≤ j) (show w.heap.size ≤ w.heap.size + 1 by omega) _ 0 W3)
    · have hrg := range_of HK2.out
      have hth := there_of HK1.out
      have hz77 : (Tryz.prog.info? 77).map (·.size) = some (ndP v.s v.ps.length d).toList.length := by rw [Array.length_toList, ndP_size]; exact size77
      have hz77' : (Tryz.prog.info? 77).map (·.size) = some (ndP v.s v.ps.length d).size := by rw [ndP_size]; exact size77
      have hone := all_oneCell_toArray (ndP_one v.s v.ps.length d)
      go_wp2_with (first | (refine wpList_load_mid rfl 77 _ rfl (w.heap.size + 1 + 1) 0 rfl (ndP v.s v.ps.length d).toList _ hrg Tryz.underlying77 rfl hz77 ?_) | (refine wpList_store_mid rfl 77 _ _ rfl (w.heap.size + 1) 0 (ndP v.s v.ps.length d) rfl rfl hth hz77' hone ?_))
      refine bodyPost_ret (v := .tuple #[.agg (ndP v.s v.ps.length d), .int .i64 0]) (key_end rfl rfl hth) rfl ?_
      have hfd := fold_end g hlt stk
      have hfo := HFO.out
      rw [hfd, List.append_nil] at hfo
      refine ⟨d, ?_, ?_, rbk, nbk, ?_, HLR.out, HLN.out, ?_⟩
      · rw [hfo]
      · intro _; rw [hfo]
      · rw [hfo]
        exact HSK.out.kept (fr_setCells (S := fun j => j = w.heap.size + 1) rfl _ 0 wr) (fun j hj e => HAP.out j (by omega) (by omega) hj)
      · exact fr_extra HFR.out (fr_setCells (S := fun j => w.heap.size ≤ j) (show w.heap.size ≤ w.heap.size + 1 by omega) _ 0 wr)
end Go.Proofs.YtnddcicadmbmkaaGreatDoor
