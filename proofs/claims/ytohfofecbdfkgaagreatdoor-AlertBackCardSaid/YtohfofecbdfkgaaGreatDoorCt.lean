/-
  Plain: a text cut at bytes of one kind; the lines of a text.
-/
import Derived.WalkKit
namespace Go.Proofs.YtohfofecbdfkgaaGreatDoor

/-- The pieces of a text between bytes of one kind. -/
def cutAt (c : UInt8) : List UInt8 → List (List UInt8)
  | [] => [[]]
  | b :: r => if b = c then [] :: cutAt c r else match cutAt c r with
    | [] => [[b]]
    | p :: ps => (b :: p) :: ps
theorem cutAt_no {c : UInt8} : ∀ {l : List UInt8}, c ∉ l → cutAt c l = [l]
  | [], _ => rfl
  | b :: r, h => by
    have hb : b ≠ c := fun e => h (by rw [e]; exact List.mem_cons_self)
    have hr : c ∉ r := fun e => h (List.mem_cons_of_mem _ e)
    unfold cutAt
    rw [if_neg hb, cutAt_no hr]
theorem cutAt_app {c : UInt8} (r : List UInt8) : ∀ {l : List UInt8}, c ∉ l → cutAt c (l ++ c :: r) = l :: cutAt c r
  | [], _ => by rw [List.nil_append, cutAt, if_pos rfl]
  | b :: l, h => by
    have hb : b ≠ c := fun e => h (by rw [e]; exact List.mem_cons_self)
    have hr : c ∉ l := fun e => h (List.mem_cons_of_mem _ e)
    rw [List.cons_append, cutAt, if_neg hb, cutAt_app r hr]
/-- The lines of a text, each with its line feed. -/
def linesOf : List UInt8 → List (List UInt8)
  | [] => []
  | b :: r => if b = 10 then [10] :: linesOf r else match linesOf r with
    | [] => [[b]]
    | p :: ps => (b :: p) :: ps
theorem linesOf_app (r : List UInt8) : ∀ {l : List UInt8}, (10 : UInt8) ∉ l → linesOf (l ++ 10 :: r) = (l ++ [10]) :: linesOf r
  | [], _ => by rw [List.nil_append, linesOf, if_pos rfl]; rfl
  | b :: l, h => by
    have hb : b ≠ 10 := fun e => h (by rw [e]; exact List.mem_cons_self)
    have hr : (10 : UInt8) ∉ l := fun e => h (List.mem_cons_of_mem _ e)
    rw [List.cons_append, linesOf, if_neg hb, linesOf_app r hr]
    rfl
theorem linesOf_no : ∀ {l : List UInt8}, l ≠ [] → (10 : UInt8) ∉ l → linesOf l = [l]
  | [], h, _ => absurd rfl h
  | [b], _, h => by
    have hb : b ≠ 10 := fun e => h (by rw [e]; exact List.mem_cons_self)
    rw [linesOf, if_neg hb]; rfl
  | b :: c :: r, _, h => by
    have hb : b ≠ 10 := fun e => h (by rw [e]; exact List.mem_cons_self)
    rw [linesOf, if_neg hb, linesOf_no (by simp) (fun e => h (List.mem_cons_of_mem _ e))]
theorem linesOf_lines : ∀ {ls : List (List UInt8)}, (∀ l ∈ ls, (10 : UInt8) ∉ l) → linesOf (ls.flatMap fun l => l ++ [10]) = ls.map fun l => l ++ [10]
  | [], _ => rfl
  | l :: ls, h => by
    have e : ((l :: ls).flatMap fun l => l ++ [10]) = l ++ 10 :: (ls.flatMap fun l => l ++ [10]) := by simp
    rw [e, linesOf_app _ (h l List.mem_cons_self), linesOf_lines (fun x hx => h x (List.mem_cons_of_mem _ hx))]
    rfl
/-- Strings as lists of bytes. -/
def lst (ws : List ByteArray) : List (List UInt8) := ws.map fun s => s.data.toList
theorem lst_len (ws : List ByteArray) : (lst ws).length = ws.length := by simp [lst]
theorem lst_snoc (ws : List ByteArray) (s : ByteArray) : lst (ws ++ [s]) = lst ws ++ [s.data.toList] := by simp [lst]
theorem lst_get {ws : List ByteArray} {i : Nat} (h : i < ws.length) : (lst ws)[i]? = some ws[i].data.toList := by simp [lst, h]
theorem cutAt_len (c : UInt8) : ∀ l : List UInt8, (cutAt c l).length ≤ l.length + 1
  | [] => Nat.le_refl _
  | b :: r => by
    have h := cutAt_len c r
    unfold cutAt
    split
    · simp; exact h
    · cases hr : cutAt c r with
      | nil => simp
      | cons p ps => rw [hr] at h; simp at h ⊢; omega
theorem cutAt_short (c : UInt8) : ∀ l : List UInt8, ∀ p ∈ cutAt c l, p.length ≤ l.length
  | [], p, hp => by rw [List.mem_singleton.1 hp]; exact Nat.le_refl _
  | b :: r, p, hp => by
    have h := cutAt_short c r
    unfold cutAt at hp
    split at hp
    · rcases List.mem_cons.1 hp with rfl | hp
      · exact Nat.zero_le _
      · have := h p hp; simp; omega
    · cases hr : cutAt c r with
      | nil => rw [hr] at hp; rw [List.mem_singleton.1 hp]; simp
      | cons q qs =>
        rw [hr] at hp h
        rcases List.mem_cons.1 hp with rfl | hp
        · have := h q List.mem_cons_self; simp; omega
        · have := h p (List.mem_cons_of_mem _ hp); simp; omega
theorem getD_short {L : List (List UInt8)} {m : Nat} (h : ∀ p ∈ L, p.length ≤ m) (i : Nat) : (L.getD i []).length ≤ m := by
  rw [List.getD_eq_getElem?_getD]
  by_cases hi : i < L.length
  · rw [List.getElem?_eq_getElem hi]; exact h _ (List.getElem_mem hi)
  · rw [List.getElem?_eq_none (by omega)]; exact Nat.zero_le _
end Go.Proofs.YtohfofecbdfkgaaGreatDoor
