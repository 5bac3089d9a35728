/-
  Plain: a text cut at bytes of one kind; the lines of a text.
-/
import Derived.WalkKit
import Derived.Test.YtmpbhngjkbidcaaGreatDoorW13
import Derived.Lib.AtoiAll
import Derived.Lib.Strings
import Derived.Lib.SplitLaws
namespace Go.Proofs.YtmpbhngjkbidcaaGreatDoor

/-- The pieces of a text between bytes of one kind. -/
def cutAt (c : UInt8) : List UInt8 → List (List UInt8)
  | [] => [[]]
  | b :: r => if b = c then [] :: cutAt c r else match cutAt c r with
    | [] => [[b]]
    | p :: ps => (b :: p) :: ps
theorem cutAt_no {c : UInt8} : ∀ {l : List UInt8}, c ∉ l → cutAt c l = [l]
  | [], _ => rfl
  | b :: r, h => by
    have hb : b ≠ c := fun e => h (by rw [e]; exact List.mem_cons_self)
    have hr : c ∉ r := fun e => h (List.mem_cons_of_mem _ e)
    unfold cutAt
    rw [if_neg hb, cutAt_no hr]
theorem cutAt_app {c : UInt8} (r : List UInt8) : ∀ {l : List UInt8}, c ∉ l → cutAt c (l ++ c :: r) = l :: cutAt c r
  | [], _ => by rw [List.nil_append, cutAt, if_pos rfl]
  | b :: l, h => by
    have hb : b ≠ c := fun e => h (by rw [e]; exact List.mem_cons_self)
    have hr : c ∉ l := fun e => h (List.mem_cons_of_mem _ e)
    rw [List.cons_append, cutAt, if_neg hb, cutAt_app r hr]
/-- The lines of a text, each with its line feed. -/
def linesOf : List UInt8 → List (List UInt8)
  | [] => []
  | b :: r => if b = 10 then [10] :: linesOf r else match linesOf r with
    | [] => [[b]]
    | p :: ps => (b :: p) :: ps
theorem linesOf_app (r : List UInt8) : ∀ {l : List UInt8}, (10 : UInt8) ∉ l → linesOf (l ++ 10 :: r) = (l ++ [10]) :: linesOf r
  | [], _ => by rw [List.nil_append, linesOf, if_pos rfl]; rfl
  | b :: l, h => by
    have hb : b ≠ 10 := fun e => h (by rw [e]; exact List.mem_cons_self)
    have hr : (10 : UInt8) ∉ l := fun e => h (List.mem_cons_of_mem _ e)
    rw [List.cons_append, linesOf, if_neg hb, linesOf_app r hr]
    rfl
theorem linesOf_no : ∀ {l : List UInt8}, l ≠ [] → (10 : UInt8) ∉ l → linesOf l = [l]
  | [], h, _ => absurd rfl h
  | [b], _, h => by
    have hb : b ≠ 10 := fun e => h (by rw [e]; exact List.mem_cons_self)
    rw [linesOf, if_neg hb]; rfl
  | b :: c :: r, _, h => by
    have hb : b ≠ 10 := fun e => h (by rw [e]; exact List.mem_cons_self)
    rw [linesOf, if_neg hb, linesOf_no (by simp) (fun e => h (List.mem_cons_of_mem _ e))]
theorem linesOf_lines : ∀ {ls : List (List UInt8)}, (∀ l ∈ ls, (10 : UInt8) ∉ l) → linesOf (ls.flatMap fun l => l ++ [10]) = ls.map fun l => l ++ [10]
  | [], _ => rfl
  | l :: ls, h => by
    have e : ((l :: ls).flatMap fun l => l ++ [10]) = l ++ 10 :: (ls.flatMap fun l => l ++ [10]) := by simp
    rw [e, linesOf_app _ (h l List.mem_cons_self), linesOf_lines (fun x hx => h x (List.mem_cons_of_mem _ hx))]
    rfl
/-- Strings as lists of bytes. -/
def lst (ws : List ByteArray) : List (List UInt8) := ws.map fun s => s.data.toList
theorem lst_len (ws : List ByteArray) : (lst ws).length = ws.length := by simp [lst]
theorem lst_snoc (ws : List ByteArray) (s : ByteArray) : lst (ws ++ [s]) = lst ws ++ [s.data.toList] := by simp [lst]
theorem lst_get {ws : List ByteArray} {i : Nat} (h : i < ws.length) : (lst ws)[i]? = some ws[i].data.toList := by simp [lst, h]
theorem cutAt_len (c : UInt8) : ∀ l : List UInt8, (cutAt c l).length ≤ l.length + 1
  | [] => Nat.le_refl _
  | b :: r => by
    have h := cutAt_len c r
    unfold cutAt
    split
    · simp; exact h
    · cases hr : cutAt c r with
      | nil => simp
      | cons p ps => rw [hr] at h; simp at h ⊢; omega
theorem cutAt_short (c : UInt8) : ∀ l : List UInt8, ∀ p ∈ cutAt c l, p.length ≤ l.length
  | [], p, hp => by rw [List.mem_singleton.1 hp]; exact Nat.le_refl _
  | b :: r, p, hp => by
    have h := cutAt_short c r
    unfold cutAt at hp
    split at hp
    · rcases List.mem_cons.1 hp with rfl | hp
      · exact Nat.zero_le _
      · have := h p hp; simp; omega
    · cases hr : cutAt c r with
      | nil => rw [hr] at hp; rw [List.mem_singleton.1 hp]; simp
      | cons q qs =>
        rw [hr] at hp h
        rcases List.mem_cons.1 hp with rfl | hp
        · have := h q List.mem_cons_self; simp; omega
        · have := h p (List.mem_cons_of_mem _ hp); simp; omega
theorem getD_short {L : List (List UInt8)} {m : Nat} (h : ∀ p ∈ L, p.length ≤ m) (i : Nat) : (L.getD i []).length ≤ m := by
  rw [List.getD_eq_getElem?_getD]
  by_cases hi : i < L.length
  · rw [List.getElem?_eq_getElem hi]; exact h _ (List.getElem_mem hi)
  · rw [List.getElem?_eq_none (by omega)]; exact Nat.zero_le _
end Go.Proofs.YtmpbhngjkbidcaaGreatDoor

/-
  Plain: what the program's Parse reads, line by line.
-/
namespace Go.Proofs.YtmpbhngjkbidcaaGreatDoor
open Al

/-- The numbers of some words; none, if one says none. -/
def numsOf : List (List UInt8) → Option (List Int)
  | [] => some []
  | p :: ps => match Lib.atoiAll p with
    | .ok n => (numsOf ps).map (n :: ·)
    | _ => none
def sAlert : List UInt8 := [97, 108, 101, 114, 116]
def sTime : List UInt8 := [116, 105, 109, 101]
def sChance : List UInt8 := [99, 104, 97, 110, 99, 101]
def sGrid : List UInt8 := [103, 114, 105, 100]
def sCells : List UInt8 := [99, 101, 108, 108, 115]
def sWithdrawn : List UInt8 := [119, 105, 116, 104, 100, 114, 97, 119, 110]
def sBefore : List UInt8 := [98, 101, 102, 111, 114, 101]
/-- What a line says of an alert: its first word, its words, its numbers. -/
def stepA (a : Alr) (h : List UInt8) (ps : List (List UInt8)) (ns : List Int) : Alr :=
  if h = sAlert then { a with ver := ns.getD 0 0, ev := match ps[1]? with | some e => ⟨e.toArray⟩ | none => a.ev }
  else if h = sTime then { a with tm := ns.getD 0 0 }
  else if h = sChance then { a with n := ns.getD 0 0, of := ns.getD 1 0 }
  else if h = sGrid then { a with grid := ns.getD 0 0 }
  else if h = sCells then { a with cells := ns }
  else if h = sWithdrawn then { a with wd := true }
  else if h = sBefore then { a with before := ns.getD 0 0 }
  else a
/-- How many words of a line are no numbers. -/
def skipN (h : List UInt8) : Nat := if h = sAlert then 2 else 1
def lineP (a : Alr) (ps : List (List UInt8)) : Option Alr := (numsOf (ps.drop (skipN (ps.headD [])))).map (stepA a (ps.headD []) ps)
def lineA (a : Alr) (l : List UInt8) : Option Alr := lineP a (cutAt 32 (Lib.trimSuffix l [10]))
def runA : Alr → List (List UInt8) → Alr
  | a, [] => a
  | a, l :: r => match lineA a l with
    | some a' => runA a' r
    | none => a
def parseA (s : List UInt8) : Alr := runA Al.zero (linesOf s)

/-- What some lines say together. -/
def foldA (L : List (List UInt8)) : Option Alr := L.foldlM lineA Al.zero
theorem foldA_snoc (L : List (List UInt8)) (l : List UInt8) : foldA (L ++ [l]) = (foldA L).bind fun a => lineA a l := by
  unfold foldA
  rw [List.foldlM_append]
  cases List.foldlM lineA Al.zero L with
  | none => rfl
  | some a => simp
theorem runA_fold : ∀ (L M : List (List UInt8)) (a b : Alr), L.foldlM lineA a = some b → runA a (L ++ M) = runA b M
  | [], M, a, b, h => by
    have h2 : some a = some b := h
    cases h2
    rfl
  | l :: L, M, a, b, h => by
    rw [List.foldlM_cons] at h
    rw [List.cons_append, runA]
    cases hl : lineA a l with
    | none => rw [hl] at h; cases h
    | some c =>
      rw [hl] at h
      exact runA_fold L M c b h
theorem run_all {L : List (List UInt8)} {b : Alr} (h : foldA L = some b) : runA Al.zero L = b := by
  have := runA_fold L [] Al.zero b h
  rwa [List.append_nil] at this
theorem run_part {L M : List (List UInt8)} {l : List UInt8} {b : Alr} (h : foldA L = some b) (hl : lineA b l = none) : runA Al.zero (L ++ l :: M) = b := by
  rw [runA_fold L (l :: M) Al.zero b h, runA, hl]
theorem cut_hit1 {l : List UInt8} {c : UInt8} {o : Nat} (h : Lib.indexByte l c = o) : cutAt c l = l.take o :: cutAt c (l.drop (o + 1)) := by
  obtain ⟨h1, h2⟩ := Lib.indexByte_some h
  obtain ⟨ho, h3⟩ := List.getElem?_eq_some_iff.1 h1
  have hno : c ∉ l.take o := fun hm => by
    obtain ⟨k, hk, e⟩ := List.mem_iff_getElem.1 hm
    rw [List.length_take] at hk
    exact h2 k (by omega) (by rw [List.getElem?_eq_getElem (by omega)]; rw [List.getElem_take] at e; rw [e])
  have e : l = l.take o ++ c :: l.drop (o + 1) := by
    conv => lhs; rw [← List.take_append_drop o l, List.drop_eq_getElem_cons ho, h3]
  have h4 := cutAt_app (l.drop (o + 1)) hno
  rw [← e] at h4
  exact h4
theorem cut_miss1 {l : List UInt8} {c : UInt8} (h : Lib.indexByte l c = -1) : cutAt c l = [l] :=
  cutAt_no fun hm => by
    obtain ⟨k, hk, e⟩ := List.mem_iff_getElem.1 hm
    exact Lib.indexByte_none h k (by rw [List.getElem?_eq_getElem hk, e])
theorem split_cut : ∀ (k : Nat) (s : ByteArray), Lib.countB s ⟨#[32]⟩ = k → lst (Lib.splitB ⟨#[32]⟩ 0 k s) = cutAt 32 s.data.toList := by
  have h1 : ∀ s : ByteArray, Lib.indexB s ⟨#[32]⟩ = Lib.indexByte s.data.toList 32 := fun s => Lib.one s ⟨#[32]⟩ rfl
  have hd : ∀ (s : ByteArray) (i : Nat), (s.extract (i + 1) s.size).data.toList = s.data.toList.drop (i + 1) := fun s i => by
    rw [Lib.extract_data, List.take_of_length_le]
    rw [List.length_drop, Array.length_toList]
    exact Nat.le_refl _
  intro k
  induction k with
  | zero =>
    intro s hk
    rcases Lib.indexB_cases s ⟨#[32]⟩ with hix | ⟨i, hix, _⟩
    · rw [Lib.splitB_zero, cut_miss1 ((h1 s).symm.trans hix)]
      rfl
    · have := Lib.countB_hit s ⟨#[32]⟩ i (by decide) hix
      omega
  | succ k ih =>
    intro s hk
    rcases Lib.indexB_cases s ⟨#[32]⟩ with hix | ⟨i, hix, _⟩
    · rw [Lib.countB_miss s _ hix] at hk; omega
    · have hc := Lib.countB_hit s ⟨#[32]⟩ i (by decide) hix
      have e1 : Lib.countB (s.extract (i + 1) s.size) ⟨#[32]⟩ = k := by
        have e2 : (⟨#[32]⟩ : ByteArray).size = 1 := rfl
        rw [e2] at hc
        omega
      rw [Lib.splitB_hit _ 0 k s i hix, cut_hit1 ((h1 s).symm.trans hix)]
      have h2 := ih (s.extract (i + 1) s.size) e1
      rw [hd] at h2
      rw [← h2]
      show (s.extract 0 (i + 0)).data.toList :: _ = _
      rw [Lib.extract_from_zero]
      rfl
theorem numsOf_app {p : List (List UInt8)} {x : List UInt8} {q : List (List UInt8)} (h : ∀ n, Lib.atoiAll x ≠ .ok n) : numsOf (p ++ x :: q) = none := by
  induction p with
  | nil =>
    rw [List.nil_append, numsOf]
    cases hx : Lib.atoiAll x with
    | ok n => exact absurd hx (h n)
    | _ => rfl
  | cons y p ih =>
    rw [List.cons_append, numsOf, ih]
    cases Lib.atoiAll y <;> rfl
theorem numsOf_snoc : ∀ {p : List (List UInt8)} {ns : List Int} {x : List UInt8} {n : Int}, numsOf p = some ns → Lib.atoiAll x = .ok n → numsOf (p ++ [x]) = some (ns ++ [n])
  | [], ns, x, n, h, hx => by
    have h2 : some [] = some ns := h
    cases h2
    rw [List.nil_append, numsOf, hx]
    rfl
  | y :: p, ns, x, n, h, hx => by
    rw [numsOf] at h
    rw [List.cons_append, numsOf]
    cases hy : Lib.atoiAll y with
    | ok v =>
      rw [hy] at h
      cases hp : numsOf p with
      | none => rw [hp] at h; cases h
      | some ms =>
        rw [hp] at h
        have h2 : some (v :: ms) = some ns := h
        cases h2
        simp only [numsOf_snoc hp hx]
        rfl
    | _ => rw [hy] at h; cases h
/-- What Parse hands back, by what is read loosely. -/
def parseR (f : List UInt8 → Alr) (s : List UInt8) : Alr × Int := if 65536 < s.length then (Al.zero, 3) else if okA (f s) ∧ textL (f s) = s then (f s, 0) else (Al.zero, 5)
end Go.Proofs.YtmpbhngjkbidcaaGreatDoor
