/- Text's writer: the walk (printed by genwrite.py). -/
import Derived.Test.YtnddcicadmbmkaaGreatDoorC1
import Derived.Deep.RegionHeld3
namespace Go.Proofs.YtnddcicadmbmkaaGreatDoor
open Go.RowKit

def Tab (w : World) : Prop := Lib.TabIs Tryz.prog w "internal/strconv.uint64pow10" .u64 Lib.pow10Tab
theorem itoa_any (n : Int) (h : (Lit.int .i64 n).wf = true) (w : World) (ht : Tab w) : Calls Tryz.prog 49 #[.int .i64 n] w fun e w' => e = .returned (.string ⟨(Lib.itoa n).toArray⟩) ∧ Below w.heap.size w w' := by
  have hn : -9223372036854775808 ≤ n ∧ n ≤ 9223372036854775807 := by
    have h' : IntKind.i64.min ≤ n ∧ n ≤ IntKind.i64.max := by simpa [Lit.wf] using h
    exact h'
  have HC := Lib.hid (Tryz.strconv_Itoa n hn.1 hn.2 w ht)
  clear h ht
  go_enter Tryz.func49, Tryz.ntmps49
  go_wp2_with fail
  refine HC.out.mono ?_
  rintro e w' ⟨rfl, k, os, rfl⟩
  go_wp2_with fail
  go_ret
  exact ⟨rfl, Lib.below_grow _ w (Nat.le_refl _) k os⟩
theorem ok_num {v : V} (h : v.Ok) : (Lit.int .i64 v.n).wf = true := by cases v; unfold V.Ok at h; exact h.2.1

/-- a builder under what turns nothing old -/
theorem built_below {B b : Nat} {bs : List Value} {w w' : World} (h : Lib.IsBuilder 63 5 B b bs w) (hb : Below w.heap.size w w') : Lib.IsBuilder 63 5 B b bs w' := by
  have key : ∀ p, Lib.BuilderAt 63 5 B b p bs w → Lib.BuilderAt 63 5 B b p bs w' := by
    rintro p ⟨h1, v, h2, h3, h4⟩
    exact ⟨h1, v, (hb.block b (heap_lt h2)).trans h2, own_same h3 (fun k e => hb.block k (h3.lt k e).2), h4⟩
  rcases h with h | h
  · exact .inl (key _ h)
  · exact .inr (key _ h)
theorem puts_text (B b : Nat) (l : List UInt8) (s : ByteArray) (w : World) (h : Lib.IsBuilder 63 5 B b (Lib.byteCells l) w) (hlen : l.length + s.size ≤ 140737488355328) (hBw : B ≤ w.heap.size) :
    Calls Tryz.prog 48 #[.pointer (some ⟨b, 0, none⟩), .string s] w fun e w' => e = .returned (.tuple #[.int .i64 s.size, .nilIface]) ∧ Lib.IsBuilder 63 5 B b (Lib.byteCells (l ++ s.data.toList)) w' ∧ Below B w w' ∧ ∀ k cs t z, k ≠ b → t ≠ 5 → w.heap[k]? = some (.cells cs t z) → w'.heap[k]? = some (.cells cs t z) := by
  refine (puts_any B b (Lib.byteCells l) s w h (by unfold Lib.byteCells; rw [List.length_map]; exact hlen) hBw).mono ?_
  rintro e w' ⟨rfl, h1, h2, h3⟩
  refine ⟨rfl, ?_, h2, h3⟩
  rw [strCells_byte, byteCells_append] at h1
  exact .inr h1
theorem olds_new (w : World) (g : Nat) (hg : w.heap.size = g) : Olds ((w.alloc (.cells #[.string ⟨#[34]⟩, .string ⟨#[92, 34]⟩, .string ⟨#[92]⟩, .string ⟨#[92, 92]⟩, .string ⟨#[10]⟩, .string ⟨#[92, 110]⟩, .string ⟨#[9]⟩, .string ⟨#[92, 116]⟩] 9)).drew) g := by
  subst hg
  have h : (w.alloc (.cells #[.string ⟨#[34]⟩, .string ⟨#[92, 34]⟩, .string ⟨#[92]⟩, .string ⟨#[92, 92]⟩, .string ⟨#[10]⟩, .string ⟨#[92, 110]⟩, .string ⟨#[9]⟩, .string ⟨#[92, 116]⟩] 9)).drew.heap[w.heap.size]? = some (.cells #[.string ⟨#[34]⟩, .string ⟨#[92, 34]⟩, .string ⟨#[92]⟩, .string ⟨#[92, 92]⟩, .string ⟨#[10]⟩, .string ⟨#[92, 110]⟩, .string ⟨#[9]⟩, .string ⟨#[92, 116]⟩] 9 (0, 0)) := heap_alloc_new w _
  unfold Olds
  simp only [cell_of h]
  exact ⟨rfl, rfl, rfl, rfl, rfl, rfl, rfl, rfl⟩
theorem built_lt {B b : Nat} {bs : List Value} {w : World} (h : Lib.IsBuilder 63 5 B b bs w) : ∃ cs, w.heap[b]? = some (.cells cs 63 (0, 0)) := by
  rcases h with ⟨_, v, h, _⟩ | ⟨_, v, h, _⟩
  · exact ⟨_, h⟩
  · exact ⟨_, h⟩
theorem con_eq (s : ByteArray) : ((⟨#[36]⟩ ++ s ++ ⟨#[40]⟩ : ByteArray)).data.toList = 36 :: (s.data.toList ++ [40]) := by simp
theorem con_size (s : ByteArray) : ((⟨#[36]⟩ ++ s ++ ⟨#[40]⟩ : ByteArray)).size = s.size + 2 := by
  rw [← ByteArray.size_data, ← Array.length_toList, con_eq]; simp
theorem quoted_eq (x : List UInt8) : ((⟨#[34]⟩ ++ ⟨x.toArray⟩ ++ ⟨#[34]⟩ : ByteArray)).data.toList = 34 :: (x ++ [34]) := by simp
theorem quoted_size (x : List UInt8) : ((⟨#[34]⟩ ++ ⟨x.toArray⟩ ++ ⟨#[34]⟩ : ByteArray)).size = x.length + 2 := by
  rw [← ByteArray.size_data, ← Array.length_toList, quoted_eq]; simp
theorem quoted_len (s : ByteArray) : (34 :: (escL s.data.toList ++ [34])).length = (escL s.data.toList).length + 2 := by simp
theorem esc_len (s : ByteArray) : (escL s.data.toList).length ≤ 2 * s.size := by
  have h := escN_bd s.data.toList s.data.toList.length (Nat.le_refl _)
  rw [escN_all] at h
  simpa using h.2

set_option maxRecDepth 100000 in
set_option maxHeartbeats 4000000 in
theorem write_any (N : Nat) : ∀ (v : V) (x : Value) (B b : Nat) (l : List UInt8) (w : World), v.sz < N → IsV B w v x → B ≤ w.heap.size → v.Ok → Lib.IsBuilder 63 5 B b (Lib.byteCells l) w → (∀ w', Below B w w' → Tab w') → l.length + (textV v).length ≤ 140737488351232 →
    Calls Tryz.prog 30 #[.pointer (some ⟨b, 0, none⟩), x] w fun e w' => e = .returned (.tuple #[]) ∧ Lib.IsBuilder 63 5 B b (Lib.byteCells (l ++ textV v)) w' ∧ Below B w w' := by
  induction N with
  | zero => intro v x B b l w h; omega
  | succ N ih =>
    intro v x B b l w hN hx hB hok hbd htab hfit
    have HX := Lib.hid hx
    obtain ⟨a, cap, rfl, hcap, hel⟩ := hx.open
    have hlen := ok_len hok
    have hstr := ok_str hok
    have HIH := Lib.hid ih
    have HE := Lib.hid hel
    have HOK := Lib.hid hok
    have HBD := Lib.hid hbd
    have HT := Lib.hid htab
    clear ih hel hok hx hbd htab
    obtain ⟨W0, hW0⟩ : ∃ W0, W0 = w.alloc (.cells #[.int .i64 v.k, .int .i64 v.n, .string v.s, .slice a v.ps.length cap] 24) := ⟨_, rfl⟩
    have hb0 : W0.heap[w.heap.size]? = some (.cells #[.int .i64 v.k, .int .i64 v.n, .string v.s, .slice a v.ps.length cap] 24 (0, 0)) := by rw [hW0]; exact heap_alloc_new _ _
    have hz0 : W0.heap.size = w.heap.size + 1 := by rw [hW0]; simp
    have hB0 : Below w.heap.size w W0 := by rw [hW0]; exact (Below.refl _ _).alloc (Nat.le_refl _) _
    have HB0 := Lib.hid (hB0.mono hB)
    have HBD0 := Lib.hid (built_below HBD.out hB0)
    have Hb0 := Lib.hid hb0
    clear hB0 hb0
    by_cases h1 : v.k = 1
    · have heq := Lib.hid (textV_num v h1)
      have hk1 : (v.k == 1) = true := by simp [h1]
      clear h1
      go_enter Tryz.func30, Tryz.ntmps30
      go_wp2_with fail
      rw [← hW0]
      refine (itoa_any v.n (ok_num HOK.out) W0 (HT.out _ HB0.out)).mono ?_
      rintro e w1 ⟨rfl, hb1⟩
      have HB1 := Lib.hid (HB0.out.trans (hb1.mono (by omega)))
      have HBD1 := Lib.hid (built_below HBD0.out hb1)
      clear hb1 hW0
      go_wp2_with fail
      refine (puts_text B b l _ w1 HBD1.out (by have := heq.out; rw [this] at hfit; simp only [ByteArray.size, List.size_toArray]; omega) (Nat.le_trans hB HB1.out.size)).mono ?_
      rintro e w2 ⟨rfl, hbb, hb2, _⟩
      have HF := Lib.hid hbb
      have HB2 := Lib.hid (HB1.out.trans hb2)
      clear hbb hb2
      go_wp2_with fail
      go_end0
      refine ⟨rfl, ?_, HB2.out⟩
      rw [heq.out]
      exact HF.out
    by_cases h2 : v.k = 2
    · have heq := Lib.hid (textV_sym v h2)
      have hk1 : (v.k == 1) = false := by simp [h1]
      have hk2 : (v.k == 2) = true := by simp [h2]
      clear h1 h2
      go_enter Tryz.func30, Tryz.ntmps30
      go_wp2_with fail
      rw [← hW0]
      have hl0 : w.heap.size < W0.heap.size := by omega
      have hkeep : ∀ w', Below W0.heap.size W0 w' → w'.cell? ⟨w.heap.size, 2, none⟩ = some (.string v.s) ∧ Below B W0 w' := fun w' hb => ⟨by rw [cell_of ((hb.block _ hl0).trans Hb0.out)]; rfl, hb.mono (by omega)⟩
      have HK := Lib.hid hkeep
      have hbne : w.heap.size ≠ b := by
        obtain ⟨cs, hcs⟩ := built_lt HBD.out
        have := heap_lt hcs
        omega
      have hesc := esc_len v.s
      have hfit2 : l.length + (escL v.s.data.toList).length + 2 ≤ 140737488351232 := by
        have := heq.out
        rw [this, quoted_len] at hfit
        omega
      have hB0z : B ≤ W0.heap.size := by omega
      have hqz : ∀ q : ByteArray, q = ⟨#[34]⟩ ++ ⟨(escL v.s.data.toList).toArray⟩ ++ ⟨#[34]⟩ → l.length + q.size ≤ 140737488355328 := by
        rintro q rfl
        rw [quoted_size]
        omega
      clear hW0 hkeep hfit
      have hold := Lib.hid (olds_new W0 (w.heap.size + 1) hz0)
      have hbl0 : Hid (Below W0.heap.size W0 ((W0.alloc (.cells #[.string ⟨#[34]⟩, .string ⟨#[92, 34]⟩, .string ⟨#[92]⟩, .string ⟨#[92, 92]⟩, .string ⟨#[10]⟩, .string ⟨#[92, 110]⟩, .string ⟨#[9]⟩, .string ⟨#[92, 116]⟩] 9)).drew)) := Lib.hid ((Below.refl _ _).alloc (Nat.le_refl _) _).drew
      have hsz1 : W0.heap.size ≤ ((W0.alloc (.cells #[.string ⟨#[34]⟩, .string ⟨#[92, 34]⟩, .string ⟨#[92]⟩, .string ⟨#[92, 92]⟩, .string ⟨#[10]⟩, .string ⟨#[92, 110]⟩, .string ⟨#[9]⟩, .string ⟨#[92, 116]⟩] 9)).drew).heap.size := hbl0.out.size
      have hs1 : ∀ w, (Op.stringOp .add ⟨#[34]⟩ ⟨(escL v.s.data.toList).toArray⟩).run Tryz.prog w = .ok (.string (⟨#[34]⟩ ++ ⟨(escL v.s.data.toList).toArray⟩)) w := fun w => by
        rw [run_string_add_if, if_neg]
        simp only [ByteArray.size_mk', List.size_toArray]
        show ¬ 1 + _ > _
        omega
      have hs2 : ∀ w, (Op.stringOp .add (⟨#[34]⟩ ++ ⟨(escL v.s.data.toList).toArray⟩) ⟨#[34]⟩).run Tryz.prog w = .ok (.string (⟨#[34]⟩ ++ ⟨(escL v.s.data.toList).toArray⟩ ++ ⟨#[34]⟩)) w := fun w => by
        rw [run_string_add_if, if_neg]
        simp only [ByteArray.size_append', ByteArray.size_mk', List.size_toArray]
        show ¬ 1 + _ + 1 > _
        omega
      go_region_held3 (fun w' => w'.cell? ⟨w.heap.size, 2, none⟩ = some (.string v.s) ∧ Below B W0 w') (first | exact HK.out _ (Below.refl _ _).drew | exact HK.out _ ((Below.refl _ _).alloc (Nat.le_refl _) _).drew | exact HK.out _ (by assumption) | assumption) (first | (go_at_call 50; refine (newrep_any (w.heap.size + 1) _ hold.out).mono ?_; rintro e w7 ⟨b7, g7, cap7, rfl, hb7, ho7, hc7, hl7, hbl7⟩; have hN7 : Below W0.heap.size W0 w7 := hbl0.out.trans (hbl7.mono hsz1); have hB7 : W0.heap.size ≤ b7 := Nat.le_trans hsz1 hl7; clear hl7 hbl7) | (go_at_call 51; refine (replace_any W0.heap.size b7 g7 cap7 v.s _ hb7 ho7 hc7 hB7 hstr).mono ?_; rintro e w8 ⟨rfl, hbl8⟩; have hN8 : Below W0.heap.size W0 w8 := hN7.trans hbl8; clear hbl8) | (go_at_call 48; refine (puts_text B b l _ _ (built_below HBD0.out hN8) (hqz _ rfl) (Nat.le_trans hB0z hN8.size)).mono ?_; rintro e w9 ⟨rfl, hb9, hbl9, hk9⟩; have hS9 : w9.cell? ⟨w.heap.size, 2, none⟩ = some (.string v.s) ∧ Below B W0 w9 := ⟨by rw [cell_of (hk9 w.heap.size _ 24 _ hbne (by decide) ((hN8.block _ hl0).trans Hb0.out))]; rfl, (hN8.mono (by omega)).trans hbl9⟩; have HF := Lib.hid hb9; clear hb9 hbl9 hk9))
      go_wp2_with fail
      go_end0
      refine ⟨rfl, ?_, HB0.out.trans hS9.2⟩
      rw [heq.out]
      have h := HF.out
      rw [quoted_eq] at h
      exact h
    by_cases h3 : v.k = 3
    · have heq := Lib.hid (textV_con v h3)
      have hk1 : (v.k == 1) = false := by simp [h1]
      have hk2 : (v.k == 2) = false := by simp [h2]
      have hk3 : (v.k == 3) = true := by simp [h3]
      clear h1 h2 h3
      go_enter Tryz.func30, Tryz.ntmps30
      go_wp2_with fail
      rw [← hW0]
      have hpl := con_eq v.s
      have hps := con_size v.s
      have htl : l.length + (v.s.size + 2 + (textVs v.ps 0).length + 1) ≤ 140737488351232 := by
        have := heq.out
        rw [this] at hfit
        simp at hfit
        omega
      obtain ⟨pre, hpre⟩ : ∃ pre : ByteArray, pre = ⟨#[36]⟩ ++ v.s ++ ⟨#[40]⟩ := ⟨_, rfl⟩
      rw [← hpre] at hpl hps ⊢
      have hbne : w.heap.size ≠ b := by
        obtain ⟨cs, hcs⟩ := built_lt HBD.out
        have := heap_lt hcs
        omega
      clear hW0 hfit hpre
      refine (puts_text B b l pre W0 HBD0.out (by omega) (by omega)).mono ?_
      rintro e W1 ⟨rfl, hbd1, hbl1, hk1'⟩
      have hb1 := hk1' w.heap.size _ 24 _ hbne (by decide) Hb0.out
      have hc3 : W1.cell? ⟨w.heap.size, 3, none⟩ = some (.slice a v.ps.length cap) := by rw [cell_of hb1]; rfl
      have HBD1 := Lib.hid hbd1
      have HB1 := Lib.hid (HB0.out.trans hbl1)
      have hz1 := hbl1.size
      have hst : Hid ((l ++ pre.data.toList) ++ (textVs v.ps 0 ++ [41]) = l ++ textV v) := Lib.hid (by rw [heq.out, hpl]; simp)
      have hll : (l ++ textV v).length ≤ 140737488351232 := by
        rw [← hst.out]
        have : pre.data.toList.length = pre.size := by simp
        simp only [List.length_append, List.length_singleton]
        omega
      clear hbd1 hbl1 hk1' hb1 hpl
      go_wp2_with fail
      go_loopw [37] (fun i wr => ∃ (k : Nat) (d : List UInt8), k ≤ v.ps.length ∧ i = .int .i64 k ∧ d ++ (textVs (v.ps.drop k) k ++ [41]) = l ++ textV v ∧ Lib.IsBuilder 63 5 B b (Lib.byteCells d) wr ∧ Below B w wr) (fun i _ => v.ps.length - (intOf i).toNat)
      case atStart => exact ⟨0, _, Nat.zero_le _, rfl, hst.out, HBD1.out, HB1.out⟩
      case round =>
        obtain ⟨k, d, hk, rfl, hd, hbdr, hbw⟩ := hrel
        have HD := Lib.hid hd
        have HBR := Lib.hid hbdr
        have HBW := Lib.hid hbw
        have hwz := hbw.size
        have hdl : d.length + (textVs (v.ps.drop k) k).length + 1 ≤ 140737488351232 := by
          rw [← hd] at hll
          simp at hll
          omega
        clear hd hbdr hbw
        by_cases hlt : k < v.ps.length
        · obtain ⟨be, off, rfl, hbB, hels⟩ := HE.out.resolve_left (by intro e; rw [e] at hlt; simp at hlt)
          obtain ⟨sl, e0, e1, e2, e3, hsub⟩ := (hels.below HBW.out hbB).at hlt
          obtain ⟨a2, cap2, rfl⟩ := sub_slice hsub
          have HS := Lib.hid (sub_isV hsub)
          have hm := Lib.hid (nthV_mem hlt)
          have htx := Lib.hid (textVs_drop hlt)
          clear hsub hels
          obtain ⟨W2, hW2⟩ : ∃ W2, W2 = wr.alloc (.cells #[.int .i64 (nthV v.ps k).k, .int .i64 (nthV v.ps k).n, .string (nthV v.ps k).s, .slice a2 (nthV v.ps k).ps.length cap2] 24) := ⟨_, rfl⟩
          have hB2 : Below wr.heap.size wr W2 := by rw [hW2]; exact (Below.refl _ _).alloc (Nat.le_refl _) _
          have hb2 : W2.heap[wr.heap.size]? = some (.cells #[.int .i64 (nthV v.ps k).k, .int .i64 (nthV v.ps k).n, .string (nthV v.ps k).s, .slice a2 (nthV v.ps k).ps.length cap2] 24 (0, 0)) := by rw [hW2]; exact heap_alloc_new _ _
          have HBD2 := Lib.hid (built_below HBR.out hB2)
          have HB2 := Lib.hid (hB2.mono (show B ≤ wr.heap.size by omega))
          have Hb2 := Lib.hid hb2
          have hbne2 : wr.heap.size ≠ b := by
            obtain ⟨cs, hcs⟩ := built_lt HBR.out
            have := heap_lt hcs
            omega
          have hz2 : wr.heap.size ≤ W2.heap.size := hB2.size
          have hBw : B ≤ wr.heap.size := by omega
          clear hB2
          by_cases hkt : 0 < k
          · have htx2 : Hid (textVs (v.ps.drop k) k = [44, 32] ++ (textV (nthV v.ps k) ++ textVs (v.ps.drop (k + 1)) (k + 1))) := Lib.hid (by rw [htx.out, if_neg (by omega)])
            have hdl2 : d.length + 2 + (textV (nthV v.ps k)).length ≤ 140737488351232 := by
              rw [htx2.out] at hdl
              simp at hdl
              omega
            clear hdl hb2
            go_wp2_with fail
            rw [← hW2]
            clear hW2
            refine (puts_text B b d ⟨#[44, 32]⟩ W2 HBD2.out (by have : (⟨#[44, 32]⟩ : ByteArray).size = 2 := rfl; omega) (by omega)).mono ?_
            rintro e W3 ⟨rfl, hbd3, hbl3, hk3'⟩
            obtain ⟨c0, c1, c2, c3⟩ := block4 (hk3' wr.heap.size _ 24 _ hbne2 (by decide) Hb2.out)
            have HBD3 := Lib.hid hbd3
            have HB3 := Lib.hid (HB2.out.trans hbl3)
            clear hbd3 hbl3 hk3'
            go_wp2_with fail
            clear c0 c1 c2 c3
            have hz3 := HB3.out.size
            refine (HIH.out (nthV v.ps k) _ B b (d ++ [44, 32]) W3 (by have := size_part hm.out; omega) (HS.out.below HB3.out) (by omega) (ok_part HOK.out hm.out) HBD3.out (fun w' h => HT.out w' ((HBW.out.trans HB3.out).trans h)) (by rw [List.length_append]; exact hdl2)).mono ?_
            rintro e W4 ⟨rfl, hbd4, hbl4⟩
            have HBD4 := Lib.hid hbd4
            have HB4 := Lib.hid ((HBW.out.trans HB3.out).trans hbl4)
            clear hbd4 hbl4
            go_wp2_with fail
            go_roundw
            case rel => exact ⟨k + 1, _, by omega, by go_num, by rw [← HD.out, htx2.out]; simp, HBD4.out, HB4.out⟩
            case measure => simp [intOf]; omega
          · have htx2 : Hid (textVs (v.ps.drop k) k = textV (nthV v.ps k) ++ textVs (v.ps.drop (k + 1)) (k + 1)) := Lib.hid (by rw [htx.out, if_pos (by omega)]; rfl)
            have hdl2 : d.length + (textV (nthV v.ps k)).length ≤ 140737488351232 := by
              rw [htx2.out, List.length_append] at hdl; omega
            clear hdl
            obtain ⟨c0, c1, c2, c3⟩ := block4 hb2
            clear hb2
            go_wp2_with fail
            rw [← hW2]
            clear hW2 c0 c1 c2 c3
            refine (HIH.out (nthV v.ps k) _ B b d W2 (by have := size_part hm.out; omega) (HS.out.below HB2.out) (by omega) (ok_part HOK.out hm.out) HBD2.out (fun w' h => HT.out w' ((HBW.out.trans HB2.out).trans h)) hdl2).mono ?_
            rintro e W4 ⟨rfl, hbd4, hbl4⟩
            have HBD4 := Lib.hid hbd4
            have HB4 := Lib.hid ((HBW.out.trans HB2.out).trans hbl4)
            clear hbd4 hbl4
            go_wp2_with fail
            go_roundw
            case rel => exact ⟨k + 1, _, by omega, by go_num, by rw [← HD.out, htx2.out]; simp, HBD4.out, HB4.out⟩
            case measure => simp [intOf]; omega
        · go_wp2_with fail
          refine (puts_text B b d ⟨#[41]⟩ wr HBR.out (by have : (⟨#[41]⟩ : ByteArray).size = 1 := rfl; omega) (by omega)).mono ?_
          rintro e W3 ⟨rfl, hbd3, hbl3, _⟩
          have HBD3 := Lib.hid hbd3
          have HB3 := Lib.hid (HBW.out.trans hbl3)
          clear hbd3 hbl3
          have hfin := Lib.hid HD.out
          rw [textVs_end hlt] at hfin
          go_wp2_with fail
          go_end0
          refine ⟨rfl, ?_, HB3.out⟩
          rw [← hfin.out]
          exact HBD3.out
    · have heq := Lib.hid (textV_odd v h1 h2 h3)
      have hk1 : (v.k == 1) = false := by simp [h1]
      have hk2 : (v.k == 2) = false := by simp [h2]
      have hk3 : (v.k == 3) = false := by simp [h3]
      clear h1 h2 h3
      go_enter Tryz.func30, Tryz.ntmps30
      go_wp2_with fail
      rw [← hW0]
      go_end0
      refine ⟨rfl, ?_, HB0.out⟩
      rw [heq.out, List.append_nil]
      exact HBD0.out
end Go.Proofs.YtnddcicadmbmkaaGreatDoor
