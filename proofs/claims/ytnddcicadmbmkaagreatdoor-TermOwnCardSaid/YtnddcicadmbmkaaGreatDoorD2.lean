/- Values by numbers: plain. -/
import Derived.Test.YtnddcicadmbmkaaGreatDoorD1
import Derived.Test.YtnddcicadmbmkaaGreatDoorA2
namespace Go.Proofs.YtnddcicadmbmkaaGreatDoor
open Go.RowKit Go.Maps

/-- a constructor's value by numbers: its name, its parts' kinds and numbers -/
abbrev Nd := ByteArray × List (Int × Int)
def pt (n : Nd) (i : Nat) : Int × Int := n.2.getD i (0, 0)
def ndC (n : Nd) : Array Value := nodeC n.1 n.2.length (pt n 0) (pt n 1) (pt n 2) (pt n 3) (pt n 4) (pt n 5) (pt n 6) (pt n 7)
def NdOk (n : Nd) : Prop := n.1.size ≤ maxLen ∧ n.2.length ≤ 8 ∧ ∀ p ∈ n.2, wfP p
theorem pt_wf {n : Nd} (h : NdOk n) (i : Nat) : wfP (pt n i) := by
  unfold pt
  rw [List.getD_eq_getElem?_getD]
  cases hi : n.2[i]? with
  | none => exact ⟨by decide, by decide⟩
  | some p => exact h.2.2 p (List.mem_of_getElem? hi)
def nk (n : Nd) : Lit := .string (keyBytes (.string n.1.data.toList :: .int .i64 n.2.length :: lits16 (pt n 0) (pt n 1) (pt n 2) (pt n 3) (pt n 4) (pt n 5) (pt n 6) (pt n 7)))
theorem nk_eq {n : Nd} (h : NdOk n) : keyOf Tryz.prog 77 (.agg (ndC n)) = some (nk n) := by
  refine key77 _ _ _ _ _ _ _ _ _ _ h.1 ?_ (pt_wf h 0) (pt_wf h 1) (pt_wf h 2) (pt_wf h 3) (pt_wf h 4) (pt_wf h 5) (pt_wf h 6) (pt_wf h 7)
  have := h.2.1
  exact WalkArith.wf_i64 (by omega)
theorem ndC_inj {a b : Nd} (ha : NdOk a) (_hb : NdOk b) (h : ndC a = ndC b) : a = b := by
  unfold ndC nodeC at h
  simp only [Array.mk.injEq, List.cons.injEq, Value.string.injEq, Value.int.injEq, true_and, and_true] at h
  obtain ⟨h1, h2, h3⟩ := h
  have hl : a.2.length = b.2.length := by omega
  have hp : ∀ i, i < 8 → pt a i = pt b i := by
    intro i hi
    have hx : i = 0 ∨ i = 1 ∨ i = 2 ∨ i = 3 ∨ i = 4 ∨ i = 5 ∨ i = 6 ∨ i = 7 := by omega
    rcases hx with rfl | rfl | rfl | rfl | rfl | rfl | rfl | rfl <;> exact Prod.ext (by simp [h3]) (by simp [h3])
  refine Prod.ext h1 (List.ext_getElem hl (fun i h4 h5 => ?_))
  have h6 := hp i (by have := ha.2.1; omega)
  unfold pt at h6
  simpa [List.getD_eq_getElem?_getD, h4, h5] using h6
theorem nk_inj {a b : Nd} (ha : NdOk a) (hb : NdOk b) (h : nk a = nk b) : a = b := by
  have h1 := law77.inj (nk_eq ha) (by rw [h]; exact nk_eq hb)
  exact ndC_inj ha hb (by simpa using h1)
theorem nk_isKey {n : Nd} (h : NdOk n) : WideAt.IsKeyLit (nk n) := law77.key (nk_eq h)

/-- a node's place -/
def nidx : List Nd → Nd → Nat
  | [], _ => 0
  | x :: r, n => if x = n then 0 else nidx r n + 1
def nhas : List Nd → Nd → Bool
  | [], _ => false
  | x :: r, n => if x = n then true else nhas r n
theorem nhas_iff {n : Nd} : ∀ {L : List Nd}, nhas L n = true ↔ n ∈ L
  | [] => by simp [nhas]
  | x :: r => by
    unfold nhas
    by_cases e : x = n
    · simp [e]
    · rw [if_neg e, nhas_iff]
      simp [Ne.symm e]
theorem nhas_no {n : Nd} {L : List Nd} : nhas L n = false ↔ n ∉ L := by rw [← nhas_iff]; simp
def nnum (L : List Nd) (n : Nd) : Nat := if nhas L n then nidx L n else 0
theorem nnum_yes {L : List Nd} {n : Nd} (h : n ∈ L) : nnum L n = nidx L n := by unfold nnum; rw [if_pos (nhas_iff.2 h)]
theorem nnum_no {L : List Nd} {n : Nd} (h : n ∉ L) : nnum L n = 0 := by unfold nnum; rw [nhas_no.2 h]; rfl
theorem nidx_old {n : Nd} (s : Nd) : ∀ {L : List Nd}, n ∈ L → nidx (L ++ [s]) n = nidx L n
  | [], h => by simp at h
  | x :: r, h => by
    show (if x = n then 0 else nidx (r ++ [s]) n + 1) = if x = n then 0 else nidx r n + 1
    by_cases e : x = n
    · rw [if_pos e, if_pos e]
    · rw [if_neg e, if_neg e, nidx_old s (by rcases List.mem_cons.1 h with h | h; exact absurd h.symm e; exact h)]
theorem nidx_new {s : Nd} : ∀ {L : List Nd}, s ∉ L → nidx (L ++ [s]) s = L.length
  | [], _ => by simp [nidx]
  | x :: r, h => by
    show (if x = s then 0 else nidx (r ++ [s]) s + 1) = r.length + 1
    simp only [List.mem_cons, not_or] at h
    rw [if_neg (Ne.symm h.1), nidx_new h.2]
theorem nidx_lt {n : Nd} : ∀ {L : List Nd}, n ∈ L → nidx L n < L.length
  | [], h => by simp at h
  | x :: r, h => by
    unfold nidx
    by_cases e : x = n
    · rw [if_pos e]; simp
    · rw [if_neg e]
      have := nidx_lt (L := r) (by rcases List.mem_cons.1 h with h | h; exact absurd h.symm e; exact h)
      simp; omega
theorem nnum_old {L : List Nd} {s t : Nd} (h : t ≠ s) : nnum (L ++ [s]) t = nnum L t := by
  by_cases hm : t ∈ L
  · rw [nnum_yes (by simp [hm]), nnum_yes hm, nidx_old s hm]
  · rw [nnum_no hm, nnum_no (by simp [hm, h])]
theorem nnum_new {L : List Nd} {s : Nd} (h : s ∉ L) : nnum (L ++ [s]) s = L.length := by
  rw [nnum_yes (by simp), nidx_new h]

def NMap (D : DataW Unit) (L : List Nd) : Prop :=
  IsMap D ∧ ∀ n : Nd, NdOk n → Maps.has D (nk n) = nhas L n ∧ D.atKey (nk n) (.lit (.int .i64 0)) = .lit (.int .i64 (nnum L n))
theorem nmap_nil : NMap (.map []) [] := ⟨isMap_empty, fun s _ => ⟨by simp [Maps.has, nhas], by simp [DataW.atKey, nnum, nhas]⟩⟩
end Go.Proofs.YtnddcicadmbmkaaGreatDoor
