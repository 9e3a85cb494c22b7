/- Going over a table: the iterator that All hands back. -/
import Derived.Test.YtpeacdghphnmbaaT6
import Derived.RangeFuncNested
import Derived.RangeFuncBound
import Derived.RangeFuncCalls
import Derived.RangeFuncLeaves
import Derived.RangeFuncBox
import Derived.Shelf.Abstract
import Derived.Shelf.RegionOpen
import Derived.OwnWalkIn
import Derived.TacticsInMore
import Derived.LoopNIn
import Derived.LoopIn
namespace Go.Proofs.Ytpeacdghphnmbaa
open Go.RowKit Go.Maps Go.Shelf

attribute [local go_sem] Oper.semAt_some

/-- What the iterator reads: its table's texts, the first of them L. -/
def Sees (m Bt : Nat) (L : List ByteArray) (W : World) : Prop :=
  W.cell? ⟨Bt, 0, none⟩ = some (.pointer (some ⟨m + 1, 0, none⟩)) ∧ (L = [] ∨ ∃ g n cap, W.cell? ⟨m + 1, 0, none⟩ = some (.slice (some ⟨g, 0, none⟩) n cap) ∧ L.length ≤ n ∧ ∀ k, k < L.length → W.cell? ⟨g, k, none⟩ = some (.string (nth L k)))

theorem Tab.sees {W : World} {m Bt n : Nat} {L : List ByteArray} {rb : Option Nat} {sv : Value} {D : DataW Unit} (h : Tab W m L rb sv D n) (hB : W.cell? ⟨Bt, 0, none⟩ = some (.pointer (some ⟨m + 1, 0, none⟩))) : Sees m Bt L W := by
  refine ⟨hB, ?_⟩
  by_cases h0 : L = []
  · exact .inl h0
  · have hl : 0 < L.length := List.length_pos_iff.2 h0
    obtain ⟨g, cap, hsv, _⟩ := h.at hl
    refine .inr ⟨g, L.length, cap, by rw [h.c0, hsv], Nat.le_refl _, fun k hk => ?_⟩
    obtain ⟨g', cap', hsv', hc⟩ := h.at hk
    rw [hsv] at hsv'
    cases hsv'
    exact hc

def fins (L : List ByteArray) (k : Nat) : List (Fin L.length) := (List.finRange L.length).take k
theorem fins_succ {L : List ByteArray} {k : Nat} (h : k < L.length) : fins L (k + 1) = fins L k ++ [⟨k, h⟩] := by
  unfold fins
  rw [List.take_succ_eq_append_getElem (by simpa using h)]
  simp
theorem fins_all (L : List ByteArray) : fins L L.length = List.finRange L.length := List.take_of_length_le (by simp)
theorem fins_len {L : List ByteArray} {k : Nat} (h : k ≤ L.length) : (fins L k).length = k := by simp [fins, h]

set_option maxRecDepth 100000 in
set_option maxHeartbeats 2000000 in
theorem all1_in (l Bt m : Nat) (L : List ByteArray) (hL : L.length ≤ 16384) (J Jx : List (Fin L.length) → World → Prop)
    (hY : ∀ pre x W, J pre W → pre.length < L.length → YieldAt Fence.wide 0 Try.prog l #[.int .i64 (x.1 : Nat), .string (nth L x.1)] W fun e W' =>
      (e = .returned (.bool true) ∧ J (pre ++ [x]) W' ∧ (Sees m Bt L W → Sees m Bt L W')) ∨ (e = .returned (.bool false) ∧ Jx (pre ++ [x]) W'))
    (W : World) (hS : Sees m Bt L W) (hlen : Calls Try.prog 17 #[.pointer (some ⟨m + 1, 0, none⟩)] W fun e w' => e = .returned (.int .i64 L.length) ∧ W = w') (h0 : J [] W) :
    CallsIn Fence.wide 1 Try.prog 22 #[.func (.yield l) #[] #[], .pointer (some ⟨Bt, 0, none⟩)] W fun e W' => (∃ v, e = .returned v) ∧
      ((∃ ys, ys = List.finRange L.length ∧ J ys W') ∨ (∃ pre, pre <+: List.finRange L.length ∧ Jx pre W')) := by
  refine callsIn_of_wp Try.func22 rfl trivial ?_ rfl
  simp only [Try.ntmps22, List.size_toArray, List.length_cons, List.length_nil, Nat.reduceAdd, Nat.reduceSub, Array.replicate_succ, Array.replicate_zero, List.push_toArray, List.append_toArray, List.nil_append, List.cons_append]
  have hb := hS.1
  gi_wp2_with fail
  refine ⟨trivial, (callsIn_wide.2 hlen).mono ?_⟩
  rintro e w' ⟨rfl, rfl⟩
  have HS := Lib.hid hS
  clear hS hb hlen
  gi_wp2_with fail
  gi_loopw [6] (fun i wr => ∃ k : Nat, k ≤ L.length ∧ i = .int .i64 k ∧ J (fins L k) wr ∧ Sees m Bt L wr) (fun i _ => L.length - (intOf i).toNat)
  case atStart => exact ⟨0, Nat.zero_le _, rfl, h0, HS.out⟩
  case round =>
    obtain ⟨k, hk, rfl, hJs, hS⟩ := hrel
    by_cases hlt : k < L.length
    · obtain ⟨fn, tmps, assign, body, hy, hR⟩ := hY _ ⟨k, hlt⟩ wr hJs (by rw [fins_len hk]; exact hlt)
      have HS2 := Lib.hid hS
      have hb := hS.1
      obtain ⟨g, n, cap, hc0, hn, hcs⟩ := hS.2.resolve_left (by intro e; rw [e] at hlt; simp at hlt)
      have hck := hcs k hlt
      have HR := Lib.hid hR
      clear hS hcs hR
      dsimp only at hy
      gi_wp2
      refine HR.out.mono ?_
      rintro e W3 (⟨rfl, hJ3, hk3⟩ | ⟨rfl, hJx3⟩)
      · gi_wp2
        go_roundw
        case rel => exact ⟨k + 1, by omega, by simp, by rw [fins_succ hlt]; exact hJ3, hk3 HS2.out⟩
        case measure => simp [intOf]; omega
      · gi_wp2
        refine bodyPost_ret (results_none rfl _ _ _) rfl ?_
        exact ⟨⟨_, rfl⟩, .inr ⟨_, by rw [← fins_succ hlt]; exact List.take_prefix _ _, hJx3⟩⟩
    · obtain rfl : k = L.length := by omega
      gi_wp2
      go_end0
      exact ⟨⟨_, rfl⟩, .inl ⟨_, fins_all L, hJs⟩⟩

end Go.Proofs.Ytpeacdghphnmbaa
