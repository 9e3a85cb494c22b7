/- The document's text of a number, and of a symbol in quotes. -/
import Derived.Test.YtnddcicadmbmkaaGreatDoorH2
import Derived.Deep.AppendLies
namespace Go.Proofs.YtnddcicadmbmkaaGreatDoor
open Go.RowKit

set_option maxHeartbeats 400000 in
theorem num_zero (w : World) : Calls Tryz.prog 52 #[.int .i64 0] w fun e w' => e = .returned (.string ⟨#[48]⟩) ∧ w = w' := by
  go_enter Tryz.func52, Tryz.ntmps52
  go_wp2_with fail
  go_ret
  exact ⟨rfl, rfl⟩
theorem numtext_any (n : Int) (h : (Lit.int .i64 n).wf = true) (w : World) : Calls Tryz.prog 52 #[.int .i64 n] w fun e w' => e = .returned (.string ⟨(Lib.itoa n).toArray⟩) ∧ Below w.heap.size w w' := by
  have hn : -9223372036854775808 ≤ n ∧ n ≤ 9223372036854775807 := by
    have h' : IntKind.i64.min ≤ n ∧ n ≤ IntKind.i64.max := by simpa [Lit.wf] using h
    exact h'
  by_cases h0 : n = 0
  · subst h0
    refine (num_zero w).mono ?_
    rintro e w' ⟨rfl, rfl⟩
    refine ⟨?_, Below.refl _ _⟩
    have h0 : Lib.itoa 0 = [48] := by unfold Lib.itoa; rw [if_neg (by omega), Lib.decDigits]; rfl
    rw [h0]
  · by_cases h1 : n < 0
    · have h2 := num_neg n.natAbs n (by omega) (by omega) (by omega) w
      refine h2.mono ?_
      rintro e w' ⟨rfl, hb⟩
      refine ⟨?_, hb⟩
      unfold Lib.itoa
      rw [if_pos h1]
      congr 2
      simp
    · have h2 := num_pos n.toNat (by omega) (by omega) w
      rw [show ((n.toNat : Nat) : Int) = n by omega] at h2
      refine h2.mono ?_
      rintro e w' ⟨rfl, hb⟩
      refine ⟨?_, hb⟩
      unfold Lib.itoa
      rw [if_neg h1]

theorem byteCells_app (a b : List UInt8) : Lib.byteCells (a ++ b) = Lib.byteCells a ++ Lib.byteCells b := by simp [Lib.byteCells]
theorem Buf.grow {B : Nat} {w : World} {v : Value} {a b : List UInt8} {n : Nat} (h : w.ownsRow B 5 1 v (a.length + n) (Lib.byteCells a ++ Lib.byteCells b)) (hn : b.length = n) : Buf B w v (a ++ b) := by
  unfold Buf
  rw [byteCells_app, List.length_append, hn]
  exact h
theorem news_lit {w : World} {cs : Array Value} {l : List UInt8} (h : cs.toList = Lib.byteCells l) : ∀ j u, (Lib.byteCells l)[j]? = some u → (w.alloc (.cells cs 5)).cell? ((⟨w.heap.size, 0, none⟩ : Addr).add j) = some u := by
  rw [← h]
  exact World.news_of_block (heap_alloc_new w (.cells cs 5))
theorem one_bytes (l : List UInt8) : ∀ u ∈ Lib.byteCells l, u.oneCell' = true := by
  intro y hy
  unfold Lib.byteCells at hy
  obtain ⟨b, _, rfl⟩ := List.mem_map.1 hy
  rfl
def QuoR (B : Nat) (W0 : World) (s : ByteArray) (k : Nat) (bv : Value) (wr : World) : Prop := Buf B wr bv (34 :: escL (s.data.toList.take k)) ∧ Below W0.heap.size W0 wr
set_option maxRecDepth 100000 in
set_option maxHeartbeats 4000000 in
theorem quoted_any (s : ByteArray) (w : World) (hs : s.size ≤ 65536) : Calls Tryz.prog 53 #[.string s] w fun e w' => e = .returned (.string ⟨(34 :: (escL s.data.toList ++ [34])).toArray⟩) ∧ Below w.heap.size w w' := by
  obtain ⟨i0, hi, hz0, hz1, hz2⟩ := info_parts Tryz.info5
  go_enter Tryz.func53, Tryz.ntmps53
  go_wp2_with fail
  go_loopw [3, 4] (fun bv i wr => ∃ k : Nat, k ≤ s.size ∧ i = .int .i64 k ∧ QuoR w.heap.size w s k bv wr) (fun _ i _ => s.size - (intOf i).toNat)
  case atStart => exact ⟨0, Nat.zero_le _, rfl, Buf.new (Nat.le_refl _) [34] _ rfl (by simp), (Below.refl _ _).alloc (Nat.le_refl _) _⟩
  case round =>
    obtain ⟨k, hk, rfl, hb, hB⟩ := hrel
    have HBF := Lib.hid hb
    have HB := Lib.hid hB
    have hsz := hB.size
    have hlen : (34 :: escL (s.data.toList.take k)).length ≤ 131073 := by
      have h1 := (escN_bd s.data.toList k (by simpa using hk)).2
      unfold escN at h1
      simp only [List.length_cons]; omega
    have HLT := Lib.hid (show ∀ g, Value.ownBlock u3 = some g → w.heap.size ≤ g from fun g hg => (hb.lt g hg).1)
    clear hb hB
    by_cases hlt : k < s.size
    · have hbl : s[k].toNat < 256 := UInt8.toNat_lt _
      have HSU := Lib.hid (escL_succ (l := s.data.toList) (k := k) (by simpa using hlt))
      have hge := get_eq hlt
      have HGE := Lib.hid hge
      clear hge
      by_cases h34 : s[k].toNat = 34
      · have HH := Lib.hid h34
        have e34 : ((s[k].toNat : Int) == 34) = true := by simp; omega
        clear h34
        go_wp2_with (at_builtin; refine wpList_append_own_at _ rfl (.tmp 24) (.tmp 28) 61 rfl w.heap.size 5 i0 (.int .u8 0) 1 1 Tryz.underlying61 hi hz0 hz1 hz2 rfl (by decide) _ _ _ (by rfl) (HBF.out.alloc _) ⟨wr.heap.size, 0, none⟩ 2 2 (Lib.byteCells [92, s[k]]) (by rfl) (by simp [Lib.byteCells]) (news_lit (by rfl)) (one_bytes _) (by unfold maxLen; omega) (by omega) (by simp; omega) ?_; intro v4 w4 hown4 hg4 hnil4 hat4; have HOWN4 := Lib.hid hown4; have HG4 := Lib.hid hg4; clear hown4 hg4 hnil4 hat4)
        go_roundw
        case rel =>
          refine ⟨k + 1, by omega, by go_num, ?_, below_grown (HB.out.alloc hsz _) (by simp; omega) HG4.out (fun g hg => HLT.out g hg)⟩
          rw [HSU.out, show escB (s.data.toList[k]'(by simpa using hlt)) = [92, s[k]] from by rw [HGE.out]; unfold escB escE; rw [HH.out]; simp; exact (UInt8.toNat_inj.1 HH.out).symm, ← List.cons_append]
          exact Buf.grow HOWN4.out (by rfl)
        case measure => simp [intOf]; omega
      · skip
        by_cases h92 : s[k].toNat = 92
        · have HH := Lib.hid h92
          have e34 : ((s[k].toNat : Int) == 34) = false := by simp; omega
          have e92 : ((s[k].toNat : Int) == 92) = true := by simp; omega
          clear h92
          go_wp2_with (at_builtin; refine wpList_append_own_at _ rfl (.tmp 24) (.tmp 28) 61 rfl w.heap.size 5 i0 (.int .u8 0) 1 1 Tryz.underlying61 hi hz0 hz1 hz2 rfl (by decide) _ _ _ (by rfl) (HBF.out.alloc _) ⟨wr.heap.size, 0, none⟩ 2 2 (Lib.byteCells [92, s[k]]) (by rfl) (by simp [Lib.byteCells]) (news_lit (by rfl)) (one_bytes _) (by unfold maxLen; omega) (by omega) (by simp; omega) ?_; intro v4 w4 hown4 hg4 hnil4 hat4; have HOWN4 := Lib.hid hown4; have HG4 := Lib.hid hg4; clear hown4 hg4 hnil4 hat4)
          go_roundw
          case rel =>
            refine ⟨k + 1, by omega, by go_num, ?_, below_grown (HB.out.alloc hsz _) (by simp; omega) HG4.out (fun g hg => HLT.out g hg)⟩
            rw [HSU.out, show escB (s.data.toList[k]'(by simpa using hlt)) = [92, s[k]] from by rw [HGE.out]; unfold escB escE; rw [HH.out]; simp; exact (UInt8.toNat_inj.1 HH.out).symm, ← List.cons_append]
            exact Buf.grow HOWN4.out (by rfl)
          case measure => simp [intOf]; omega
        · skip
          by_cases h10 : s[k].toNat = 10
          · have HH := Lib.hid h10
            have e34 : ((s[k].toNat : Int) == 34) = false := by simp; omega
            have e92 : ((s[k].toNat : Int) == 92) = false := by simp; omega
            have e10 : ((s[k].toNat : Int) == 10) = true := by simp; omega
            clear h10
            go_wp2_with (at_builtin; refine wpList_append_own_at _ rfl (.tmp 32) (.tmp 33) 61 rfl w.heap.size 5 i0 (.int .u8 0) 1 1 Tryz.underlying61 hi hz0 hz1 hz2 rfl (by decide) _ _ _ (by rfl) (HBF.out.alloc _) ⟨wr.heap.size, 0, none⟩ 2 2 (Lib.byteCells [92, 110]) (by rfl) (by simp [Lib.byteCells]) (news_lit (by rfl)) (one_bytes _) (by unfold maxLen; omega) (by omega) (by simp; omega) ?_; intro v4 w4 hown4 hg4 hnil4 hat4; have HOWN4 := Lib.hid hown4; have HG4 := Lib.hid hg4; clear hown4 hg4 hnil4 hat4)
            go_roundw
            case rel =>
              refine ⟨k + 1, by omega, by go_num, ?_, below_grown (HB.out.alloc hsz _) (by simp; omega) HG4.out (fun g hg => HLT.out g hg)⟩
              rw [HSU.out, show escB (s.data.toList[k]'(by simpa using hlt)) = [92, 110] from by rw [HGE.out]; unfold escB escE; rw [HH.out]; rfl, ← List.cons_append]
              exact Buf.grow HOWN4.out (by rfl)
            case measure => simp [intOf]; omega
          · skip
            by_cases h9 : s[k].toNat = 9
            · have HH := Lib.hid h9
              have e34 : ((s[k].toNat : Int) == 34) = false := by simp; omega
              have e92 : ((s[k].toNat : Int) == 92) = false := by simp; omega
              have e10 : ((s[k].toNat : Int) == 10) = false := by simp; omega
              have e9 : ((s[k].toNat : Int) == 9) = true := by simp; omega
              clear h9
              go_wp2_with (at_builtin; refine wpList_append_own_at _ rfl (.tmp 37) (.tmp 38) 61 rfl w.heap.size 5 i0 (.int .u8 0) 1 1 Tryz.underlying61 hi hz0 hz1 hz2 rfl (by decide) _ _ _ (by rfl) (HBF.out.alloc _) ⟨wr.heap.size, 0, none⟩ 2 2 (Lib.byteCells [92, 116]) (by rfl) (by simp [Lib.byteCells]) (news_lit (by rfl)) (one_bytes _) (by unfold maxLen; omega) (by omega) (by simp; omega) ?_; intro v4 w4 hown4 hg4 hnil4 hat4; have HOWN4 := Lib.hid hown4; have HG4 := Lib.hid hg4; clear hown4 hg4 hnil4 hat4)
              go_roundw
              case rel =>
                refine ⟨k + 1, by omega, by go_num, ?_, below_grown (HB.out.alloc hsz _) (by simp; omega) HG4.out (fun g hg => HLT.out g hg)⟩
                rw [HSU.out, show escB (s.data.toList[k]'(by simpa using hlt)) = [92, 116] from by rw [HGE.out]; unfold escB escE; rw [HH.out]; rfl, ← List.cons_append]
                exact Buf.grow HOWN4.out (by rfl)
              case measure => simp [intOf]; omega
            · skip
              have HH := Lib.hid (And.intro h34 (And.intro h92 (And.intro h10 h9)))
              have e34 : ((s[k].toNat : Int) == 34) = false := by simp; omega
              have e92 : ((s[k].toNat : Int) == 92) = false := by simp; omega
              have e10 : ((s[k].toNat : Int) == 10) = false := by simp; omega
              have e9 : ((s[k].toNat : Int) == 9) = false := by simp; omega
              clear h34 h92 h10 h9
              go_wp2_with (at_builtin; refine wpList_append_own_at _ rfl (.tmp 15) (.tmp 19) 61 rfl w.heap.size 5 i0 (.int .u8 0) 1 1 Tryz.underlying61 hi hz0 hz1 hz2 rfl (by decide) _ _ _ (by rfl) (HBF.out.alloc _) ⟨wr.heap.size, 0, none⟩ 1 1 (Lib.byteCells [s[k]]) (by rfl) (by simp [Lib.byteCells]) (news_lit (by rfl)) (one_bytes _) (by unfold maxLen; omega) (by omega) (by simp; omega) ?_; intro v4 w4 hown4 hg4 hnil4 hat4; have HOWN4 := Lib.hid hown4; have HG4 := Lib.hid hg4; clear hown4 hg4 hnil4 hat4)
              go_roundw
              case rel =>
                refine ⟨k + 1, by omega, by go_num, ?_, below_grown (HB.out.alloc hsz _) (by simp; omega) HG4.out (fun g hg => HLT.out g hg)⟩
                rw [HSU.out, show escB (s.data.toList[k]'(by simpa using hlt)) = [s[k]] from by rw [HGE.out]; unfold escB escE; rw [if_neg HH.out.1, if_neg HH.out.2.1, if_neg HH.out.2.2.1, if_neg HH.out.2.2.2]; rfl, ← List.cons_append]
                exact Buf.grow HOWN4.out (by rfl)
              case measure => simp [intOf]; omega
    · obtain rfl : k = s.size := by omega
      have hfull : s.data.toList.take s.size = s.data.toList := List.take_of_length_le (by simp)
      rw [hfull] at HBF hlen
      go_wp2_with (first | (at_builtin; refine wpList_append_own_at _ rfl (.tmp 40) (.tmp 41) 61 rfl w.heap.size 5 i0 (.int .u8 0) 1 1 Tryz.underlying61 hi hz0 hz1 hz2 rfl (by decide) _ _ _ (by rfl) (HBF.out.alloc _) ⟨wr.heap.size, 0, none⟩ 1 1 (Lib.byteCells [34]) (by rfl) (by simp [Lib.byteCells]) (news_lit (by rfl)) (one_bytes _) (by unfold maxLen; omega) (by omega) (by simp; omega) ?_; intro v4 w4 hown4 hg4 hnil4 hat4; have hconv := Buf.text (Buf.grow (a := 34 :: escL s.data.toList) (b := [34]) hown4 rfl) (by simp); have HG4 := Lib.hid hg4; clear hown4 hg4 hnil4 hat4) | fail)
      go_ret
      exact ⟨rfl, below_grown (HB.out.alloc hsz _) (by simp; omega) HG4.out (fun g hg => HLT.out g hg)⟩
end Go.Proofs.YtnddcicadmbmkaaGreatDoor
