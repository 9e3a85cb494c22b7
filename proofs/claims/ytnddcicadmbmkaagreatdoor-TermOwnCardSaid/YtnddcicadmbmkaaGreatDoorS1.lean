/- The symbol table of package sym, as the walks see it: what its blocks are good for, and the contracts of its small functions. -/
import Derived.Test.YtnddcicadmbmkaaGreatDoorRows
import Derived.Maps.OwnSet
import Derived.WalkKit
import Derived.ProofKit
import Derived.Lib.Hide
import Derived.OneCell
namespace Go.Proofs.YtnddcicadmbmkaaGreatDoor.Sy
open Go.RowKit Go.Maps

theorem law9 : Keyed Tryz.prog 9 := string_keyed Tryz.underlying9
theorem zero3 (w : World) : (zeroValue 3).run Tryz.prog w = .ok (.int .i64 0) w := by kernel_rfl

/-- a text as a key -/
def ky (s : ByteArray) : Lit := .string s.data.toList
/-- its number in a list; 0 if it is not there -/
def idx : List ByteArray → ByteArray → Nat
  | [], _ => 0
  | x :: r, s => if x = s then 0 else idx r s + 1
def hasB : List ByteArray → ByteArray → Bool
  | [], _ => false
  | x :: r, s => if x = s then true else hasB r s
theorem hasB_iff {s : ByteArray} : ∀ {L : List ByteArray}, hasB L s = true ↔ s ∈ L
  | [] => by simp [hasB]
  | x :: r => by
    unfold hasB
    by_cases e : x = s
    · simp [e]
    · rw [if_neg e, hasB_iff]
      simp [Ne.symm e]
theorem hasB_no {s : ByteArray} {L : List ByteArray} : hasB L s = false ↔ s ∉ L := by rw [← hasB_iff]; simp
def num (L : List ByteArray) (s : ByteArray) : Nat := if hasB L s then idx L s else 0
theorem num_yes {L : List ByteArray} {s : ByteArray} (h : s ∈ L) : num L s = idx L s := by unfold num; rw [if_pos (hasB_iff.2 h)]
theorem num_no {L : List ByteArray} {s : ByteArray} (h : s ∉ L) : num L s = 0 := by unfold num; rw [hasB_no.2 h]; rfl

/-- The map has just the list's texts, each with its number. -/
def MapIs (D : DataW Unit) (L : List ByteArray) : Prop :=
  IsMap D ∧ ∀ s : ByteArray, Maps.has D (ky s) = hasB L s ∧ D.atKey (ky s) (.lit (.int .i64 0)) = .lit (.int .i64 (num L s))

/-- the text with a number -/
def nth (L : List ByteArray) (k : Nat) : ByteArray := L.getD k ⟨#[]⟩

/-- Blocks m and m + 1 of w are a table that has the texts L; rb is the block in which the texts lie. -/
structure Tab (w : World) (m : Nat) (L : List ByteArray) (rb : Option Nat) (sv : Value) (D : DataW Unit) (n : Nat) : Prop where
  cells : w.heap[m + 1]? = some (.cells #[sv, .map (some m)] 95 (0, 0))
  map : w.ownsMap Tryz.prog 9 (plainElem (H := Unit) Tryz.prog 3) m n D
  few : n ≤ L.length
  is : MapIs D L
  row : w.ownsRow (m + 2) 9 1 sv L.length (L.map Value.string)
  blk : sv.ownBlock = rb
  len : L.length ≤ 16384
  nodup : L.Nodup
  wide : ∀ s ∈ L, s.size ≤ maxLen

theorem Tab.c0 {w : World} {m : Nat} {L : List ByteArray} {rb : Option Nat} {sv : Value} {D : DataW Unit} {n : Nat} (h : Tab w m L rb sv D n) : w.cell? ⟨m + 1, 0, none⟩ = some sv := by simp [World.cell?, h.cells]
theorem Tab.c1 {w : World} {m : Nat} {L : List ByteArray} {rb : Option Nat} {sv : Value} {D : DataW Unit} {n : Nat} (h : Tab w m L rb sv D n) : w.cell? ⟨m + 1, 1, none⟩ = some (.map (some m)) := by simp [World.cell?, h.cells]
theorem Tab.f0 {w : World} {m : Nat} {L : List ByteArray} {rb : Option Nat} {sv : Value} {D : DataW Unit} {n : Nat} (h : Tab w m L rb sv D n) : w.frozen? ⟨m + 1, 0, none⟩ = false := by simp [World.frozen?, h.cells]

theorem Tab.slice {w : World} {m : Nat} {L : List ByteArray} {rb : Option Nat} {sv : Value} {D : DataW Unit} {n : Nat} (h : Tab w m L rb sv D n) : ∃ cap a, sv = .slice a L.length cap := by
  rcases h.row.2 with ⟨h1, h2⟩ | ⟨g, cap, cur, h1, _⟩
  · exact ⟨0, none, by rw [h1, h2]⟩
  · exact ⟨cap, _, h1⟩

theorem Tab.at {w : World} {m : Nat} {L : List ByteArray} {rb : Option Nat} {sv : Value} {D : DataW Unit} {n : Nat} (h : Tab w m L rb sv D n) {k : Nat} (hk : k < L.length) :
    ∃ g cap, sv = .slice (some ⟨g, 0, none⟩) L.length cap ∧ w.cell? ⟨g, k, none⟩ = some (.string (nth L k)) := by
  rcases h.row.2 with ⟨_, h2⟩ | ⟨g, cap, cur, h1, _⟩
  · omega
  · refine ⟨g, cap, h1, ?_⟩
    have := h.row.cells (g := g) (by rw [h1]; rfl) k (.string (nth L k)) (by simp [nth, hk])
    rwa [show (⟨g, 0, none⟩ : Addr).add k = ⟨g, k, none⟩ from by unfold Addr.add; split <;> simp_all] at this

set_option maxHeartbeats 400000 in
theorem get_any (m n : Nat) (L : List ByteArray) (rb : Option Nat) (sv : Value) (D : DataW Unit) (s : ByteArray) (w : World) (h : Tab w m L rb sv D n) (hs : s.size ≤ maxLen) :
    Calls Tryz.prog 64 #[.pointer (some ⟨m + 1, 0, none⟩), .string s] w fun e w' => e = .returned (.tuple #[.int .i64 (num L s), .bool (hasB L s)]) ∧ w = w' := by
  have c1 := h.c1
  have hown := h.map
  have hkey : keyOf Tryz.prog 9 (.string s) = some (ky s) := Go.WideMaps.keyOf_string_mk Tryz.underlying9 hs
  have hi := Lib.hid (h.is.2 s)
  go_enter Tryz.func64, Tryz.ntmps64
  go_wp2_with (first
    | (at_lookup; refine wpList_lookup_own_ok_int _ rfl _ _ 93 rfl 9 3 .i64 law9 Tryz.underlying93 Tryz.underlying3 (zero3 _) m n D rfl hown _ _ rfl hkey ?_; intro c hat hwc)
    | go_in)
  obtain ⟨h1, h2⟩ := hi.out
  rw [h2] at hat
  cases hat
  go_ret2
  exact ⟨congrArg (fun b => Ending.returned (.tuple #[.int .i64 (num L s), .bool b])) h1, rfl⟩

set_option maxHeartbeats 400000 in
theorem len_any (m n : Nat) (L : List ByteArray) (rb : Option Nat) (sv : Value) (D : DataW Unit) (w : World) (h : Tab w m L rb sv D n) :
    Calls Tryz.prog 63 #[.pointer (some ⟨m + 1, 0, none⟩)] w fun e w' => e = .returned (.int .i64 L.length) ∧ w = w' := by
  have c0 := h.c0
  obtain ⟨cap, a, rfl⟩ := h.slice
  go_enter Tryz.func63, Tryz.ntmps63
  go_wp2
  go_ret
  exact ⟨rfl, rfl⟩

def txt (L : List ByteArray) (n : Int) : ByteArray := if 0 ≤ n ∧ n < L.length then nth L n.toNat else ⟨#[]⟩
def isTxt (L : List ByteArray) (n : Int) : Bool := decide (0 ≤ n ∧ n < L.length)

set_option maxHeartbeats 400000 in
theorem text_any (m n : Nat) (L : List ByteArray) (rb : Option Nat) (sv : Value) (D : DataW Unit) (i : Int) (w : World) (h : Tab w m L rb sv D n) :
    Calls Tryz.prog 43 #[.pointer (some ⟨m + 1, 0, none⟩), .int .i64 i] w fun e w' => e = .returned (.tuple #[.string (txt L i), .bool (isTxt L i)]) ∧ w = w' := by
  have c0 := h.c0
  by_cases h0 : i < 0
  · have e1 : txt L i = ⟨#[]⟩ := by unfold txt; rw [if_neg (by omega)]
    have e2 : isTxt L i = false := by unfold isTxt; simp; omega
    rw [e1, e2]
    clear e1 e2
    go_enter Tryz.func43, Tryz.ntmps43
    go_wp2_with fail
    go_ret2
    exact ⟨rfl, rfl⟩
  · obtain ⟨k, rfl⟩ := Int.eq_ofNat_of_zero_le (Int.not_lt.1 h0)
    have hl := h.len
    by_cases h1 : k < L.length
    · have e1 := Lib.hid (show txt L k = nth L k from by unfold txt; rw [if_pos (by omega)]; rfl)
      have e2 := Lib.hid (show isTxt L k = true from by unfold isTxt; simp; omega)
      obtain ⟨g, cap, hsv, hc⟩ := h.at h1
      have hT := Lib.hid h; clear h
      subst hsv
      go_enter Tryz.func43, Tryz.ntmps43
      go_wp2_with (go_at_call 63; refine (len_any m n L rb _ D _ hT.out).mono ?_; rintro e w' ⟨rfl, rfl⟩)
      go_ret2
      rw [e1.out, e2.out]
      exact ⟨rfl, rfl⟩
    · have e1 := Lib.hid (show txt L k = ⟨#[]⟩ from by unfold txt; rw [if_neg (by omega)])
      have e2 := Lib.hid (show isTxt L k = false from by unfold isTxt; simp; omega)
      have hT := Lib.hid h; clear h
      go_enter Tryz.func43, Tryz.ntmps43
      go_wp2_with (go_at_call 63; refine (len_any m n L rb _ D _ hT.out).mono ?_; rintro e w' ⟨rfl, rfl⟩)
      go_ret2
      rw [e1.out, e2.out]
      exact ⟨rfl, rfl⟩

end Go.Proofs.YtnddcicadmbmkaaGreatDoor.Sy
