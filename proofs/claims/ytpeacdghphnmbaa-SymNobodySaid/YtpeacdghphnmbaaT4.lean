/- The probe 'alive' of the statements on symbols answers true and touches nothing that was there. -/
import Derived.Test.YtpeacdghphnmbaaT3
namespace Go.Proofs.Ytpeacdghphnmbaa
open Go.RowKit Go.Maps

def PutPost' (m : Nat) (L' : List ByteArray) (i j : Int) (rb : Option Nat) (w : World) (e : Ending) (w' : World) : Prop :=
  e = .returned (.tuple #[.int .i64 i, .int .i64 j]) ∧ ∃ rb' sv' D' n', Tab w' m L' rb' sv' D' n' ∧ (rb' = rb ∨ ∃ g, rb' = some g ∧ w.heap.size ≤ g) ∧ Fr (Foot m rb) w w'

theorem put_at (m n : Nat) (L L' : List ByteArray) (i j : Int) (rb : Option Nat) (sv : Value) (D : DataW Unit) (s : ByteArray) (w : World) (h : Tab w m L rb sv D n) (hs : s.size ≤ maxLen) (hL : pL L s = L') (hN : (pN L s : Int) = i) (hE : (pE L s : Int) = j) :
    Calls Try.prog 11 #[.pointer (some ⟨m + 1, 0, none⟩), .string s] w (PutPost' m L' i j rb w) := by
  refine (put_any m n L rb sv D s w h hs).mono ?_
  rintro e w' ⟨rfl, h⟩
  subst hL hN hE
  exact ⟨rfl, h⟩

def sb : ByteArray := ⟨#[98]⟩
def sa : ByteArray := ⟨#[97]⟩
theorem less10 : lessB [sb, sa] 1 0 = true := by simp [lessB, isTxt, txt, nth, sa, sb, ByteArray.toList_eq, Op.bytesLess]

/-- w' is w but for new blocks. -/
theorem fr_below {w w1 w2 : World} {m : Nat} {rb : Option Nat} (h : Below w.heap.size w w1) (hf : Fr (Foot m rb) w1 w2) (hm : w.heap.size ≤ m) (hr : ∀ g, rb = some g → w.heap.size ≤ g) : Below w.heap.size w w2 :=
  h.trans (hf.below h.size (fun k hk => by
    rcases hk with rfl | rfl | hk
    · exact hm
    · omega
    · exact hr k hk))

set_option maxRecDepth 100000 in
set_option maxHeartbeats 1000000 in
theorem alive_any (w : World) : Calls Try.prog 10 #[] w fun e w' => e = .returned (.bool true) ∧ Below w.heap.size w w' := by
  have hl := less10
  have e1 : sb.size ≤ maxLen := by decide
  have e2 : sa.size ≤ maxLen := by decide
  go_enter Try.func10, Try.ntmps10
  go_wp2_with fail
  refine (new_any w).mono ?_
  rintro e w1 ⟨rfl, hT1, hB1, hs1⟩
  go_wp2_with fail
  refine (put_at w.heap.size 0 [] [sb] 0 0 none _ _ sb w1 hT1 e1 (by decide) (by decide) (by decide)).mono ?_
  rintro e w2 ⟨rfl, rb2, sv2, D2, n2, hT2, hr2, hF2⟩
  have hB2 := fr_below hB1 hF2 (Nat.le_refl _) (by simp)
  have hr2' : ∀ g, rb2 = some g → w.heap.size ≤ g := fun g hg => by
    rcases hr2 with h | ⟨g', h, h'⟩
    · rw [h] at hg; cases hg
    · rw [h] at hg; cases hg; have := hB1.size; omega
  go_wp2_with fail
  refine (put_at w.heap.size _ [sb] [sb, sa] 1 0 rb2 _ _ sa w2 hT2 e2 (by decide) (by decide) (by decide)).mono ?_
  rintro e w3 ⟨rfl, rb3, sv3, D3, n3, hT3, hr3, hF3⟩
  have hB3 := fr_below hB2 hF3 (Nat.le_refl _) hr2'
  have hr3' : ∀ g, rb3 = some g → w.heap.size ≤ g := fun g hg => by
    rcases hr3 with h | ⟨g', h, h'⟩
    · exact hr2' g (h ▸ hg)
    · rw [h] at hg; cases hg; have := hB2.size; omega
  go_wp2_with fail
  refine (put_at w.heap.size _ [sb, sa] [sb, sa] 0 0 rb3 _ _ sb w3 hT3 e1 (by decide) (by decide) (by decide)).mono ?_
  rintro e w4 ⟨rfl, rb4, sv4, D4, n4, hT4, hr4, hF4⟩
  have hB4 := fr_below hB3 hF4 (Nat.le_refl _) hr3'
  go_wp2_with fail
  refine (less_any w.heap.size n4 [sb, sa] rb4 _ _ 1 0 w4 hT4).mono ?_
  rintro e w' ⟨rfl, rfl⟩
  rw [hl]
  go_wp2_with fail
  refine (len_any w.heap.size n4 [sb, sa] rb4 _ _ w4 hT4).mono ?_
  rintro e w' ⟨rfl, rfl⟩
  go_wp2_with fail
  go_ret
  exact ⟨rfl, hB4⟩

end Go.Proofs.Ytpeacdghphnmbaa
