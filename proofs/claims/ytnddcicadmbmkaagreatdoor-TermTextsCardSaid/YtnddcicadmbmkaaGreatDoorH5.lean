/- The document's text of a value that may be. -/
import Derived.Test.YtnddcicadmbmkaaGreatDoorH4
import Derived.Test.YtnddcicadmbmkaaGreatDoorC3
namespace Go.Proofs.YtnddcicadmbmkaaGreatDoor
open Go.RowKit

theorem rmay_sym {v : V} {d : Int} (h : mayV v d = true) (h2 : v.k = 2) : v.s.size ≤ 65536 := by
  obtain ⟨k, n, s, ps⟩ := v
  cases h2
  unfold mayV at h
  simp at h
  exact h.2
theorem rmay_con {v : V} {d : Int} (h : mayV v d = true) (h2 : v.k = 3) : v.s.size ≤ 64 ∧ v.ps.length ≤ 8 ∧ mayVs v.ps (d + 1) = true := by
  obtain ⟨k, n, s, ps⟩ := v
  cases h2
  unfold mayV at h
  simp at h
  exact ⟨word_len h.1.1.1.2, h.1.1.2, h.2⟩
theorem rmay_odd {v : V} {d : Int} (h : mayV v d = true) (h1 : v.k ≠ 1) (h2 : v.k ≠ 2) (h3 : v.k ≠ 3) : False := by
  obtain ⟨k, n, s, ps⟩ := v
  have h1 : k ≠ 1 := h1
  have h2 : k ≠ 2 := h2
  have h3 : k ≠ 3 := h3
  unfold mayV at h
  simp [h1, h2, h3] at h
theorem rmay_part : ∀ {l : List V} {d : Int} {x : V}, mayVs l d = true → x ∈ l → mayV x d = true
  | [], _, _, _, h => by cases h
  | y :: r, d, x, hm, h => by
    unfold mayVs at hm
    simp only [Bool.and_eq_true] at hm
    rcases List.mem_cons.1 h with rfl | h
    · exact hm.1
    · exact rmay_part hm.2 h
set_option maxRecDepth 100000 in
set_option maxHeartbeats 4000000 in
theorem rtext_any (N : Nat) : ∀ (v : V) (x : Value) (B : Nat) (w : World) (d : Int), v.sz < N → IsV B w v x → B ≤ w.heap.size → v.Ok → mayV v d = true → v.sz ≤ 1024 →
    Calls Tryz.prog 32 #[x] w fun e w' => e = .returned (.string ⟨(textV v).toArray⟩) ∧ Below w.heap.size w w' := by
  induction N with
  | zero => intro v x B w d h; omega
  | succ N ih =>
    intro v x B w d hN hx hB hok hmay hsz
    have htl := text_len v d hmay hok
    obtain ⟨a, cap, rfl, hcap, hel⟩ := hx.open
    have hlen := ok_len hok
    have hstr := ok_str hok
    have HX := Lib.hid hx
    have HIH := Lib.hid ih
    have HE := Lib.hid hel
    have HOK := Lib.hid hok
    have HM := Lib.hid hmay
    clear ih hel hok hx hmay
    obtain ⟨i0, hi, hz0, hz1, hz2⟩ := info_parts Tryz.info5
    obtain ⟨W0, hW0⟩ : ∃ W0, W0 = w.alloc (.cells #[.int .i64 v.k, .int .i64 v.n, .string v.s, .slice a v.ps.length cap] 24) := ⟨_, rfl⟩
    have hb0 : W0.heap[w.heap.size]? = some (.cells #[.int .i64 v.k, .int .i64 v.n, .string v.s, .slice a v.ps.length cap] 24 (0, 0)) := by rw [hW0]; exact heap_alloc_new _ _
    have hz0' : W0.heap.size = w.heap.size + 1 := by rw [hW0]; simp
    have HB0 : Hid (Below w.heap.size w W0) := Lib.hid (by rw [hW0]; exact (Below.refl _ _).alloc (Nat.le_refl _) _)
    have Hb0 := Lib.hid hb0
    clear hb0
    by_cases h1 : v.k = 1
    · have heq := Lib.hid (textV_num v h1)
      have hk1 : (v.k == 1) = true := by simp [h1]
      clear h1
      go_enter Tryz.func32, Tryz.ntmps32
      go_wp2_with fail
      rw [← hW0]
      refine (numtext_any v.n (ok_num HOK.out) W0).mono ?_
      rintro e w1 ⟨rfl, hb1⟩
      have HB1 := Lib.hid (HB0.out.trans (hb1.mono (by omega)))
      clear hb1 hW0
      go_wp2_with fail
      go_ret
      refine ⟨?_, HB1.out⟩
      rw [heq.out]
      rfl
    by_cases h2 : v.k = 2
    · have heq := Lib.hid (textV_sym v h2)
      have hk1 : (v.k == 1) = false := by simp [h1]
      have hk2 : (v.k == 2) = true := by simp [h2]
      have hss := rmay_sym HM.out h2
      clear h1 h2
      go_enter Tryz.func32, Tryz.ntmps32
      go_wp2_with fail
      rw [← hW0]
      refine (quoted_any v.s W0 hss).mono ?_
      rintro e w1 ⟨rfl, hb1⟩
      have HB1 := Lib.hid (HB0.out.trans (hb1.mono (by omega)))
      clear hb1 hW0
      go_wp2_with fail
      go_ret
      refine ⟨?_, HB1.out⟩
      rw [heq.out]
      rfl
    by_cases h3 : v.k = 3
    · have heq := Lib.hid (textV_con v h3)
      have hk1 : (v.k == 1) = false := by simp [h1]
      have hk2 : (v.k == 2) = false := by simp [h2]
      have hk3 : (v.k == 3) = true := by simp [h3]
      have hss := (rmay_con HM.out h3).1
      have hpsl := (rmay_con HM.out h3).2.1
      have HMP := Lib.hid (rmay_con HM.out h3).2.2
      clear h1 h2 h3
      go_enter Tryz.func32, Tryz.ntmps32
      have hs1 : ∀ w, (Op.stringOp .add ⟨#[36]⟩ v.s).run Tryz.prog w = .ok (.string (⟨#[36]⟩ ++ v.s)) w := fun w => by
        rw [run_string_add_if, if_neg]
        simp only [ByteArray.size_mk']
        show ¬ 1 + _ > _
        omega
      have hs2 : ∀ w, (Op.stringOp .add (⟨#[36]⟩ ++ v.s) ⟨#[40]⟩).run Tryz.prog w = .ok (.string (⟨#[36]⟩ ++ v.s ++ ⟨#[40]⟩)) w := fun w => by
        rw [run_string_add_if, if_neg]
        simp only [ByteArray.size_append', ByteArray.size_mk']
        show ¬ 1 + _ + 1 > _
        omega
      have hpl := con_eq v.s
      have hps := con_size v.s
      obtain ⟨pre, hpre⟩ : ∃ pre : ByteArray, pre = ⟨#[36]⟩ ++ v.s ++ ⟨#[40]⟩ := ⟨_, rfl⟩
      rw [← hpre] at hpl hps
      obtain ⟨bv, W1, hconv, hbuf, hbl1⟩ := bufE_conv pre W0 W0.heap.size (by omega) (by omega)
      rw [hpre] at hconv
      have HST : Hid (pre.data.toList ++ (textVs v.ps 0 ++ [41]) = textV v) := Lib.hid (by rw [heq.out, hpl]; simp)
      have hfit : (textV v).length ≤ 134225920 := by omega
      have HBF := Lib.hid hbuf
      have HB1 := Lib.hid hbl1
      clear hbuf hpl hps hpre htl hbl1 
      obtain ⟨P0, hP0⟩ : ∃ P0, P0 = pre.data.toList := ⟨_, rfl⟩
      rw [← hP0] at HST HBF
      clear hP0
      rw [hW0] at hconv
      go_wp2_with fail
      clear hconv hs1 hs2
      go_loopw [3, 4] (fun bv i wr => ∃ (k : Nat) (l : List UInt8), k ≤ v.ps.length ∧ i = .int .i64 k ∧ l ++ (textVs (v.ps.drop k) k ++ [41]) = textV v ∧ BufE W0.heap.size wr bv l ∧ Below W0.heap.size W0 wr) (fun _ i _ => v.ps.length - (intOf i).toNat)
      case atStart => exact ⟨0, P0, Nat.zero_le _, rfl, HST.out, HBF.out, HB1.out⟩
      case round =>
        obtain ⟨k, l, hk, rfl, hd, hbf, hbw⟩ := hrel
        have HD := Lib.hid hd
        have HBR := Lib.hid hbf
        have HBW := Lib.hid hbw
        have hwz := hbw.size
        have hb1 := (hbw.block w.heap.size (by omega)).trans Hb0.out
        have hc3 : wr.cell? ⟨w.heap.size, 3, none⟩ = some (.slice a v.ps.length cap) := by rw [cell_of hb1]; rfl
        have hll : l.length + (textVs (v.ps.drop k) k).length + 1 ≤ 134225920 := by
          rw [← hd] at hfit
          simp at hfit
          omega
        clear hd hbf hbw hb1 hW0
        by_cases hlt : k < v.ps.length
        · obtain ⟨be, off, rfl, hbB, hels⟩ := HE.out.resolve_left (by intro e; rw [e] at hlt; simp at hlt)
          have hBW0 : Below B w wr := (HB0.out.mono hB).trans (HBW.out.mono (by omega))
          obtain ⟨sl, e0, e1, e2, e3, hsub⟩ := (hels.below hBW0 hbB).at hlt
          obtain ⟨a2, cap2, rfl⟩ := sub_slice hsub
          have HS := Lib.hid (sub_isV hsub)
          have hm := Lib.hid (nthV_mem hlt)
          have htx := Lib.hid (textVs_drop hlt)
          have HBW0 := Lib.hid hBW0
          have hbe : be < w.heap.size := by omega
          have HF : Hid (∀ w', Below W0.heap.size wr w' → w'.cell? ⟨w.heap.size, 3, none⟩ = some (.slice (some ⟨be, off, none⟩) v.ps.length cap) ∧ w'.cell? ⟨be, off + k * 4, none⟩ = some (.int .i64 (nthV v.ps k).k) ∧ w'.cell? ⟨be, off + k * 4 + 1, none⟩ = some (.int .i64 (nthV v.ps k).n) ∧ w'.cell? ⟨be, off + k * 4 + 2, none⟩ = some (.string (nthV v.ps k).s) ∧ w'.cell? ⟨be, off + k * 4 + 3, none⟩ = some (.slice a2 (nthV v.ps k).ps.length cap2)) := Lib.hid (fun w' hb => ⟨(hb.cell (p := ⟨w.heap.size, 3, none⟩) (by show w.heap.size < _; omega)).trans hc3, (hb.cell (p := ⟨be, off + k * 4, none⟩) (by show be < _; omega)).trans e0, (hb.cell (p := ⟨be, off + k * 4 + 1, none⟩) (by show be < _; omega)).trans e1, (hb.cell (p := ⟨be, off + k * 4 + 2, none⟩) (by show be < _; omega)).trans e2, (hb.cell (p := ⟨be, off + k * 4 + 3, none⟩) (by show be < _; omega)).trans e3⟩)
          clear hsub hels hBW0 e0 e1 e2 e3
          by_cases hkt : 0 < k
          · have htx2 : Hid (textVs (v.ps.drop k) k = [44, 32] ++ (textV (nthV v.ps k) ++ textVs (v.ps.drop (k + 1)) (k + 1))) := Lib.hid (by rw [htx.out, if_neg (by omega)])
            have hdl2 : l.length + 2 + (textV (nthV v.ps k)).length ≤ 134225920 := by
              rw [htx2.out] at hll
              simp at hll
              omega
            clear hll htx
            go_wp2_with (at_builtin; refine wpList_thaw_string rfl (.tmp 33) (.const (.string ⟨#[44, 32]⟩)) rfl W0.heap.size i0 hi hz0 hz1 hz2 _ l (by rfl) HBR.out ⟨#[44, 32]⟩ (by rfl) (by have : (⟨#[44, 32]⟩ : ByteArray).size = 2 := rfl; omega) (by omega) ?_; intro v4 w4 hown4 hB4; have HBF4 := Lib.hid (show BufE W0.heap.size w4 v4 (l ++ [44, 32]) from hown4); have hg4B : Below B wr w4 := hB4.mono (by omega); obtain ⟨c3, e0', e1', e2', e3'⟩ := HF.out w4 hB4; clear hown4)
            refine (HIH.out (nthV v.ps k) _ B w4 (d + 1) (by have := size_part hm.out; omega) (HS.out.below (hg4B)) (by have := hB4.size; omega) (ok_part HOK.out hm.out) (rmay_part HMP.out hm.out) (by have := size_part hm.out; omega)).mono ?_
            rintro e w5 ⟨rfl, hb5⟩
            have HBF5 := Lib.hid (HBF4.out.kept hb5)
            have HB5 := Lib.hid (hB4.trans (hb5.mono (by have := hB4.size; omega)))
            have hz5 := HB5.out.size
            clear hb5 hB4 hg4B c3 e0' e1' e2' e3'
            go_wp2_with (at_builtin; refine wpList_thaw_string rfl (.tmp 35) (.tmp 41) rfl W0.heap.size i0 hi hz0 hz1 hz2 _ (l ++ [44, 32]) (by rfl) HBF5.out ⟨(textV (nthV v.ps k)).toArray⟩ (by rfl) (by simp only [ByteArray.size, List.size_toArray, List.length_append, List.length_cons, List.length_nil]; omega) (by omega) ?_; intro v6 w6 hown6 hg6; have HBF6 := Lib.hid hown6; have HB6 := Lib.hid (HB5.out.trans hg6); clear hown6 hg6)
            go_roundw
            case rel => exact ⟨k + 1, _, by omega, by go_num, by rw [← HD.out, htx2.out]; simp, HBF6.out, HBW.out.trans HB6.out⟩
            case measure => simp [intOf]; omega
          · have htx2 : Hid (textVs (v.ps.drop k) k = textV (nthV v.ps k) ++ textVs (v.ps.drop (k + 1)) (k + 1)) := Lib.hid (by rw [htx.out, if_pos (by omega)]; rfl)
            have hdl2 : l.length + (textV (nthV v.ps k)).length ≤ 134225920 := by
              rw [htx2.out, List.length_append] at hll; omega
            have hB4 : Below W0.heap.size wr wr := Below.refl _ _
            have hg4B : Below B wr wr := Below.refl _ _
            have HBF4 := HBR
            obtain ⟨c3, e0', e1', e2', e3'⟩ := HF.out wr hB4
            clear hll htx
            go_wp2_with fail
            refine (HIH.out (nthV v.ps k) _ B wr (d + 1) (by have := size_part hm.out; omega) (HS.out.below (hg4B)) (by have := hB4.size; omega) (ok_part HOK.out hm.out) (rmay_part HMP.out hm.out) (by have := size_part hm.out; omega)).mono ?_
            rintro e w5 ⟨rfl, hb5⟩
            have HBF5 := Lib.hid (HBF4.out.kept hb5)
            have HB5 := Lib.hid (hB4.trans (hb5.mono (by have := hB4.size; omega)))
            have hz5 := HB5.out.size
            clear hb5 hB4 hg4B c3 e0' e1' e2' e3'
            go_wp2_with (at_builtin; refine wpList_thaw_string rfl (.tmp 35) (.tmp 41) rfl W0.heap.size i0 hi hz0 hz1 hz2 _ l (by rfl) HBF5.out ⟨(textV (nthV v.ps k)).toArray⟩ (by rfl) (by simp only [ByteArray.size, List.size_toArray]; omega) (by omega) ?_; intro v6 w6 hown6 hg6; have HBF6 := Lib.hid hown6; have HB6 := Lib.hid (HB5.out.trans hg6); clear hown6 hg6)
            go_roundw
            case rel => exact ⟨k + 1, _, by omega, by go_num, by rw [← HD.out, htx2.out]; simp, HBF6.out, HBW.out.trans HB6.out⟩
            case measure => simp [intOf]; omega
        · have hfin := Lib.hid HD.out
          rw [textVs_end hlt] at hfin
          have HBA : Hid (BufE W0.heap.size (wr.alloc (.cells #[.int .u8 41] 5)) u3 l) := Lib.hid (HBR.out.kept ((Below.refl _ _).alloc (Nat.le_refl _) _))
          have HB2 : Hid (Below W0.heap.size W0 (wr.alloc (.cells #[.int .u8 41] 5))) := Lib.hid (HBW.out.alloc hwz _)
          go_wp2_with (at_builtin; refine wpList_thaw_slice rfl (.tmp 43) (.tmp 44) rfl W0.heap.size i0 hi hz0 hz1 hz2 _ l (by rfl) HBA.out [41] ⟨wr.heap.size, 0, none⟩ 1 (by rfl) (news_lit (by rfl)) (by simp; omega) (by simp; omega) ?_; intro v6 w6 hown6 hg6; have hconv := hown6.text; have HB6 := Lib.hid (HB2.out.trans hg6); clear hown6 hg6)
          go_ret
          exact ⟨by rw [← hfin.out]; rfl, HB0.out.trans (HB6.out.mono (by omega))⟩
    · exact (rmay_odd HM.out h1 h2 h3).elim
end Go.Proofs.YtnddcicadmbmkaaGreatDoor
