/- A buffer of bytes of the call's own; the document's text of a number. -/
import Derived.Test.YtnddcicadmbmkaaGreatDoorG4
import Derived.Test.YtnddcicadmbmkaaGreatDoorD4
import Derived.Laws.AppendOwnNone
import Derived.Maps.AppendAt
import Derived.Laws.IdiomStrings
namespace Go.Proofs.YtnddcicadmbmkaaGreatDoor
open Go.RowKit

/-- v is a slice of the bytes l, in a row of the call's own -/
def Buf (B : Nat) (w : World) (v : Value) (l : List UInt8) : Prop := w.ownsRow B 5 1 v l.length (Lib.byteCells l)
theorem Buf.nil (B : Nat) (w : World) : Buf B w (.slice none 0 0) [] := World.ownsRow_nil _ _ _ _
theorem Buf.new {B : Nat} {w : World} (hB : B ≤ w.heap.size) (l : List UInt8) (cs : Array Value) (hcs : cs.toList = Lib.byteCells l) (hl : l.length ≤ 1000) : Buf B (w.alloc (.cells cs 5)) (.slice (some ⟨w.heap.size, 0, none⟩) l.length l.length) l := by
  have hsz : cs.size = l.length := by rw [← Array.length_toList, hcs]; simp [Lib.byteCells]
  refine ⟨by simp [Lib.byteCells], .inr ⟨w.heap.size, l.length, cs, rfl, hB, heap_alloc_new _ _, Nat.le_refl _, by unfold maxLen; omega, by omega, ?_⟩⟩
  rw [← hcs, List.take_of_length_le (by rw [Array.length_toList]; omega)]
theorem Buf.cells {B : Nat} {w : World} {v : Value} {l : List UInt8} (h : Buf B w v l) (hl : l ≠ []) : ∃ g cap, v = .slice (some ⟨g, 0, none⟩) l.length cap ∧ ∀ j u, (Lib.byteCells l)[j]? = some u → w.cell? ((⟨g, 0, none⟩ : Addr).add j) = some u := by
  rcases h.2 with ⟨_, h2⟩ | ⟨g, cap, cur, h1, _⟩
  · exact absurd (List.length_eq_zero_iff.1 h2) hl
  · exact ⟨g, cap, h1, World.ownsRow.cells (g := g) h (by rw [h1]; rfl)⟩
theorem Buf.empty {B : Nat} {w : World} {v : Value} (h : Buf B w v []) (hv : ∀ cap g, v ≠ .slice (some ⟨g, 0, none⟩) 0 cap) : v = .slice none 0 0 := by
  rcases h.2 with ⟨h1, _⟩ | ⟨g, cap, cur, h1, _⟩
  · exact h1
  · exact absurd h1 (hv cap g)
theorem Buf.text {B : Nat} {w : World} {v : Value} {l : List UInt8} (h : Buf B w v l) (hl : l ≠ []) : (convert 61 9 v).run Tryz.prog w = .ok (.string ⟨l.toArray⟩) w := by
  obtain ⟨g, cap, rfl, hc⟩ := h.cells hl
  exact run_convert_bytes_back w 61 9 5 _ cap l Tryz.underlying61 Tryz.underlying5 Tryz.underlying9 (fun j hj => hc j _ (by simp [Lib.byteCells, hj]))
theorem Tryz.info5 : (Tryz.prog.info? 5).map (fun i => (i.zero, i.size, i.bytes)) = some (some (.int .u8 0), 1, 1) := by kernel_rfl

/-- the digits of u; none of 0 -/
def digs (u : Nat) : List UInt8 := if u = 0 then [] else Lib.decDigits u
theorem digs_step {u : Nat} (h : 0 < u) : digs u = digs (u / 10) ++ [UInt8.ofNat (48 + u % 10)] := by
  unfold digs
  rw [if_neg (by omega), Lib.decDigits]
  by_cases h1 : u < 10
  · rw [dif_pos h1, if_pos (by omega), List.nil_append, Nat.mod_eq_of_lt h1]
  · rw [dif_neg h1, if_neg (by omega)]
/-- the numeral's loop: what is left of the number, what has been laid -/
def NumR (B u : Nat) (W0 : World) (r : Nat) (bv : Value) (wr : World) : Prop := ∃ (l : List UInt8), digs u = digs r ++ l ∧ Buf B wr bv l ∧ (l = [] → bv = .slice none 0 0) ∧ r ≤ u ∧ Below W0.heap.size W0 wr ∧ r * 10 ^ l.length ≤ u
theorem num_len {r n u : Nat} (h : r * 10 ^ n ≤ u) (h0 : 0 < r) (hu : u ≤ 9223372036854775808) : n ≤ 18 := by
  rcases Nat.lt_or_ge 18 n with h1 | h1
  · have h2 : 10 ^ 19 ≤ 10 ^ n := Nat.pow_le_pow_right (by omega) h1
    have h3 : 1 * 10 ^ n ≤ r * 10 ^ n := Nat.mul_le_mul_right _ h0
    have h4 : (10 : Nat) ^ 19 = 10000000000000000000 := by decide
    omega
  · exact h1

theorem below_grown {B : Nat} {w w1 w2 : World} {row : Option Nat} (h : Below B w w1) (hB : B ≤ w1.heap.size) (hg : w1.grownBy w2 row) (hr : ∀ k, row = some k → B ≤ k) : Below B w w2 :=
  h.trans ((Sy.Fr.of_grown (S := fun k => B ≤ k) hg (fun k hk => hr k hk)).below hB (fun _ hk => hk))
theorem cells_digit (r : Nat) : (#[Value.int .u8 (48 + (r : Int) % 10)] : Array Value).toList = Lib.byteCells [UInt8.ofNat (48 + r % 10)] := by
  show [Value.int .u8 _] = [Value.int .u8 _]
  rw [dig_nat (by omega)]
  congr 2
theorem digs_ne {u : Nat} (h : 0 < u) : digs u ≠ [] := by
  unfold digs
  rw [if_neg (by omega)]
  obtain ⟨c, t, h1, _⟩ := dec_ne u
  rw [h1]; simp
set_option maxRecDepth 100000 in
set_option maxHeartbeats 2000000 in
theorem num_pos (u : Nat) (h0 : 0 < u) (hu : u ≤ 9223372036854775807) (w : World) : Calls Tryz.prog 52 #[.int .i64 (u : Int)] w fun e w' => e = .returned (.string ⟨(Lib.decDigits u).toArray⟩) ∧ Below w.heap.size w w' := by
  have hz : ((u : Int) == 0) = false := by simp; omega
  obtain ⟨i0, hi, hz0, hz1, hz2⟩ := info_parts Tryz.info5
  go_enter Tryz.func52, Tryz.ntmps52
  go_wp2_with fail
  go_loopw [3, 4] (fun bv mv wr => ∃ r : Nat, mv = .int .i64 r ∧ NumR w.heap.size u w r bv wr) (fun _ mv _ => (intOf mv).toNat)
  case atStart => exact ⟨u, rfl, [], by simp, Buf.nil _ _, fun _ => rfl, Nat.le_refl _, Below.refl _ _, by simp⟩
  case round =>
    obtain ⟨r, rfl, l, hd, hb, hn, hr, hB, hp⟩ := hrel
    have HD := Lib.hid hd
    have HBF := Lib.hid hb
    have HN := Lib.hid hn
    have HB := Lib.hid hB
    have HP := Lib.hid hp
    have hsz := hB.size
    clear hd hb hn hB hp
    by_cases hr0 : r = 0
    · subst hr0
      have hdl : digs u = l := by have := HD.out; simpa [digs] using this
      have hne : l ≠ [] := fun e => digs_ne h0 (hdl.trans e)
      have hconv := HBF.out.text hne
      have HDL := Lib.hid hdl
      obtain ⟨g, cap, rfl, _⟩ := HBF.out.cells hne
      clear hdl hne
      go_wp2_with fail
      go_ret
      refine ⟨?_, HB.out⟩
      rw [← HDL.out]
      unfold digs
      rw [if_neg (by omega)]
      rfl
    · have hrz : ((r : Int) != 0) = true := by simp; omega
      have hrp : (1 : Int) ≤ (r : Int) := by omega
      have hm0 : (0 : Int) ≤ (r : Int) % 10 := by omega
      have hm9 : (r : Int) % 10 ≤ 9 := by omega
      have hll := num_len HP.out (by omega) (by omega)
      have HST := Lib.hid (digs_step (show 0 < r by omega))
      have HOWN := Lib.hid (show (wr.alloc (.cells #[.int .u8 (48 + (r : Int) % 10)] 5)).ownsRow w.heap.size 5 1 (.slice (some ⟨wr.heap.size, 0, none⟩) 1 1) 1 (Lib.byteCells [UInt8.ofNat (48 + r % 10)]) from Buf.new hsz [UInt8.ofNat (48 + r % 10)] _ (cells_digit r) (by simp))
      have HBA := Lib.hid (show Below w.heap.size w (wr.alloc (.cells #[.int .u8 (48 + (r : Int) % 10)] 5)) from HB.out.alloc hsz _)
      have HPN := Lib.hid (show (r / 10) * 10 ^ (l.length + 1) ≤ u from by
        have h1 := HP.out
        have h2 : (r / 10) * 10 ≤ r := by omega
        have h3 : (r / 10) * 10 * 10 ^ l.length ≤ r * 10 ^ l.length := Nat.mul_le_mul_right _ h2
        rw [Nat.pow_succ, Nat.mul_comm (10 ^ l.length) 10, ← Nat.mul_assoc]
        omega)
      have HQ := Lib.hid (show (r : Int) / 10 = ((r / 10 : Nat) : Int) from by omega)
      by_cases hl : l = []
      · subst hl
        obtain rfl := HN.out rfl
        go_wp2_with (at_builtin; refine wpList_append_own_none rfl (.tmp 22) (.tmp 23) 61 rfl w.heap.size 5 i0 1 Tryz.underlying61 hi (.slice (some ⟨wr.heap.size, 0, none⟩) 1 1) 1 _ (by rfl) HOWN.out (by rfl) ?_)
        go_roundw
        case rel => exact ⟨r / 10, by rw [HQ.out], [UInt8.ofNat (48 + r % 10)], by rw [HD.out, HST.out]; simp, HOWN.out, (fun h => by cases h), by omega, HBA.out, HPN.out⟩
        case measure => rw [HQ.out]; simp [intOf]; omega
      · obtain ⟨g, cap, rfl, hc⟩ := HBF.out.cells hl
        have HNEWS := Lib.hid (show ∀ j x, (Lib.byteCells l)[j]? = some x → (wr.alloc (.cells #[.int .u8 (48 + (r : Int) % 10)] 5)).cell? ((⟨g, 0, none⟩ : Addr).add j) = some x from fun j x hx => (World.cell?_alloc_some wr _ _ (by rw [hc j x hx]; rfl)).trans (hc j x hx))
        clear hc
        go_wp2_with (at_builtin; refine wpList_append_own_at _ rfl (.tmp 22) (.tmp 23) 61 rfl w.heap.size 5 i0 (.int .u8 0) 1 1 Tryz.underlying61 hi hz0 hz1 hz2 rfl (by decide) (.slice (some ⟨wr.heap.size, 0, none⟩) 1 1) 1 _ (by rfl) HOWN.out ⟨g, 0, none⟩ l.length cap (Lib.byteCells l) (by rfl) (by simp [Lib.byteCells]) HNEWS.out (by intro y hy; unfold Lib.byteCells at hy; obtain ⟨b, _, rfl⟩ := List.mem_map.1 hy; rfl) (by unfold maxLen; omega) (by omega) HBA.out.size ?_; intro v4 w4 hown4 hg4 hnil4 hat4; have HOWN4 := Lib.hid hown4; have HG4 := Lib.hid hg4; clear hown4 hg4 hnil4 hat4)
        go_roundw
        case rel =>
          refine ⟨r / 10, by rw [HQ.out], UInt8.ofNat (48 + r % 10) :: l, by rw [HD.out, HST.out]; simp, ?_, (fun h => by cases h), by omega, below_grown HBA.out HBA.out.size HG4.out (fun k hk => ?_), by simpa using HPN.out⟩
          · have := HOWN4.out
            unfold Buf
            rw [List.length_cons, Nat.add_comm]
            exact this
          · have hk' : wr.heap.size = k := by simpa [Value.ownBlock] using hk
            omega
        case measure => rw [HQ.out]; simp [intOf]; omega
end Go.Proofs.YtnddcicadmbmkaaGreatDoor
