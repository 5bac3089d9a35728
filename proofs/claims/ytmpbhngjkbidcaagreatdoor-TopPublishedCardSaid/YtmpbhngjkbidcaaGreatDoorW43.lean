/-
  The walk of the specification's Parse.
-/
import Derived.Test.YtmpbhngjkbidcaaGreatDoorW42
import Derived.Test.YtmpbhngjkbidcaaGreatDoorW25
import Derived.Test.YtmpbhngjkbidcaaGreatDoorW19
import Derived.Deep.RegionHeld3
import Derived.Deep.RegionLaw
import Derived.Deep.AppendLies
namespace Go.Proofs.YtmpbhngjkbidcaaGreatDoor
open Go.RowKit Al
theorem Sl.belowS {w w' : World} {sz n c : Nat} {A : Option Addr} {xs : List Value} (h : Sl w w.heap.size sz A n c xs) (hb : Below w.heap.size w w') : Sl w' w'.heap.size sz A n c xs := (h.below hb).more hb.size
/-- A line of a text, by its number. -/
def lnB (s : List UInt8) (i : Nat) : List UInt8 := (cutAt 10 s).getD i []
/-- Words in memory. -/
def Wd (l : List (List UInt8)) (v : Value) (w : World) : Prop := ∃ (zs : List ByteArray) (A : Option Addr) (c : Nat), v = .slice A zs.length c ∧ Sl w w.heap.size 1 A zs.length c (strs zs) ∧ lst zs = l ∧ ∀ x ∈ zs, x.size ≤ 65536
theorem Wd.below {l : List (List UInt8)} {v : Value} {w w' : World} (h : Wd l v w) (hb : Below w.heap.size w w') : Wd l v w' := by
  obtain ⟨zs, A, c, h1, h2, h3, h4⟩ := h
  exact ⟨zs, A, c, h1, (h2.below hb).more hb.size, h3, h4⟩
theorem wordB_short (l : List UInt8) (j i : Nat) : (wordB (wordsOf (lnB l j)) i).length ≤ l.length := by
  unfold wordB
  refine getD_short (fun p hp => ?_) i
  unfold wordsOf at hp
  exact Nat.le_trans (cutAt_short 32 _ p (List.mem_filter.1 hp).1) (getD_short (cutAt_short 10 l) j)
/-- What the lines 0, 1, 3 and 5 say. -/
def al6 (L : List UInt8) : Alr := ⟨⟨(wordB (wordsOf (lnB L 0)) 1).toArray⟩, digitsB (wordsOf (lnB L 0)) 2, digitsB (wordsOf (lnB L 1)) 1, 0, 0, digitsB (wordsOf (lnB L 3)) 1, [], false, digitsB (wordsOf (lnB L 5)) 1⟩
/-- What the lines 0, 1, 2, 3 and 5 say. -/
def al7 (L : List UInt8) : Alr := { al6 L with n := digitsB (wordsOf (lnB L 2)) 1, of := digitsB (wordsOf (lnB L 2)) 2 }
def al8 (L : List UInt8) : Alr := { al7 L with wd := wordB (wordsOf (lnB L 4)) 0 == [119, 105, 116, 104, 100, 114, 97, 119, 110] }
def P6 (n c b off B : Nat) (x0 x1 x3 x5 : ByteArray) (L : List UInt8) : Nat → Value → World → Prop
  | 0, v, _ => v = .slice (some ⟨b, off, none⟩) n c
  | 1, v, _ => v = .pointer (some ⟨b, off, none⟩)
  | 2, v, _ => v = .string x0
  | 3, v, w => Wd (wordsOf (lnB L 0)) v w
  | 4, v, _ => v = (.string ⟨(wordB (wordsOf (lnB L 0)) 1).toArray⟩)
  | 5, v, _ => v = .slice (some ⟨b, off, none⟩) n c
  | 6, v, _ => v = .pointer (some ⟨b, off, none⟩)
  | 7, v, _ => v = .string x0
  | 8, v, w => Wd (wordsOf (lnB L 0)) v w
  | 9, v, _ => v = (.int .i64 (digitsB (wordsOf (lnB L 0)) 2))
  | 10, v, _ => v = .slice (some ⟨b, off, none⟩) n c
  | 11, v, _ => v = .pointer (some ⟨b, off + 1, none⟩)
  | 12, v, _ => v = .string x1
  | 13, v, w => Wd (wordsOf (lnB L 1)) v w
  | 14, v, _ => v = (.int .i64 (digitsB (wordsOf (lnB L 1)) 1))
  | 15, v, _ => v = .slice (some ⟨b, off, none⟩) n c
  | 16, v, _ => v = .pointer (some ⟨b, off + 3, none⟩)
  | 17, v, _ => v = .string x3
  | 18, v, w => Wd (wordsOf (lnB L 3)) v w
  | 19, v, _ => v = (.int .i64 (digitsB (wordsOf (lnB L 3)) 1))
  | 20, v, _ => v = .slice (some ⟨b, off, none⟩) n c
  | 21, v, _ => v = .pointer (some ⟨b, off + 5, none⟩)
  | 22, v, _ => v = .string x5
  | 23, v, w => Wd (wordsOf (lnB L 5)) v w
  | 24, v, _ => v = (.int .i64 (digitsB (wordsOf (lnB L 5)) 1))
  | 25, v, _ => v = (al6 L).val none 0
  | 26, v, w => ∃ g, v = .pointer (some ⟨g, 0, none⟩) ∧ Bxa w B g Al.zero none 0
  | _, _, _ => True
theorem P6.below {n c b off B : Nat} {x0 x1 x3 x5 : ByteArray} {L : List UInt8} {w w' : World} (hb : Below w.heap.size w w') : ∀ (j : Nat) (v : Value), P6 n c b off B x0 x1 x3 x5 L j v w → P6 n c b off B x0 x1 x3 x5 L j v w'
  | 0, _, h => h
  | 1, _, h => h
  | 2, _, h => h
  | 3, _, h => Wd.below h hb
  | 4, _, h => h
  | 5, _, h => h
  | 6, _, h => h
  | 7, _, h => h
  | 8, _, h => Wd.below h hb
  | 9, _, h => h
  | 10, _, h => h
  | 11, _, h => h
  | 12, _, h => h
  | 13, _, h => Wd.below h hb
  | 14, _, h => h
  | 15, _, h => h
  | 16, _, h => h
  | 17, _, h => h
  | 18, _, h => Wd.below h hb
  | 19, _, h => h
  | 20, _, h => h
  | 21, _, h => h
  | 22, _, h => h
  | 23, _, h => Wd.below h hb
  | 24, _, h => h
  | 25, _, h => h
  | 26, _, ⟨g, h1, h2⟩ => ⟨g, h1, h2.below hb⟩
  | 27, _, h => h
  | _ + 28, _, h => h
/-- What holds while the region goes on. -/
def Inv6 (n c b off B : Nat) (x0 x1 x3 x5 : ByteArray) (L : List UInt8) (W : World) (F : (Nat → Value) → Array Value) (x6 : Alr) (D : Nat → Bool) (a : Act) (w : World) : Prop :=
  ∃ v : Nat → Value, a = ⟨F v, []⟩ ∧ Below W.heap.size W w ∧ (D 27 = false → ∀ j, D j = true → P6 n c b off B x0 x1 x3 x5 L j (v j) w) ∧ (D 27 = true → (∀ j, j < 27 → D j = true) ∧ ∃ g, v 26 = .pointer (some ⟨g, 0, none⟩) ∧ Bxa w B g x6 none 0)
theorem Inv6.step {n c b off B : Nat} {x0 x1 x3 x5 : ByteArray} {L : List UInt8} {W : World} {F : (Nat → Value) → Array Value} {x6 : Alr} {D : Nat → Bool} {w w' : World} {v : Nat → Value} {val : Value} {i : Nat} (hi : i < 27) (hB : Below W.heap.size W w) (h27 : D 27 = false)
    (hP : ∀ j, D j = true → P6 n c b off B x0 x1 x3 x5 L j (v j) w) (hb : Below w.heap.size w w') (hval : P6 n c b off B x0 x1 x3 x5 L i val w') : Inv6 n c b off B x0 x1 x3 x5 L W F x6 (updD D i) ⟨F (fun j => if j = i then val else v j), []⟩ w' := by
  refine ⟨_, rfl, hB.trans (hb.mono hB.size), fun _ j hj => ?_, fun h => ?_⟩
  · by_cases hji : j = i
    · subst hji
      simp only [if_true]
      exact hval
    · rw [if_neg hji]
      exact P6.below hb j _ (hP j (by simpa [updD, hji] using hj))
  · unfold updD at h
    rw [if_neg (by omega), h27] at h
    cases h
theorem news1 {w : World} {g : Nat} {d : Value} (hc : w.cell? ⟨g, 0, none⟩ = some d) : ∀ j u, [d][j]? = some u → w.cell? ((⟨g, 0, none⟩ : Addr).add j) = some u := fun j u hu => by
  rcases j with _ | j
  · cases hu
    rw [Addr.add_lit]
    exact hc
  · cases hu
/-- A region that collects: what it reads, one append, one store. -/
def Inv12 (F : (Nat → Value) → Array Value) (PA : Nat → Value → World → Prop) (RB : Nat → Nat → World → Prop) (FIN : World → Prop) (W : World) (g n : Nat) (D : Nat → Bool) (a : Act) (w : World) : Prop :=
  ∃ v : Nat → Value, a = ⟨F v, []⟩ ∧ (D 9 = false → Below W.heap.size W w ∧ ∀ j, j < 9 → D j = true → PA j (v j) w) ∧
    (D 9 = true → D 11 = false → ∃ gA capA, v 9 = .slice (some ⟨gA, 0, none⟩) (n + 1) capA ∧ RB gA capA w ∧ (D 10 = true → v 10 = .pointer (some ⟨g, 6, none⟩))) ∧ (D 11 = true → FIN w)
theorem Inv12.step {F : (Nat → Value) → Array Value} {PA : Nat → Value → World → Prop} {RB : Nat → Nat → World → Prop} {FIN : World → Prop} {W : World} {g n : Nat} {D : Nat → Bool} {w w' : World} {v : Nat → Value} {val : Value} {i : Nat} (hi : i < 9) (h9 : D 9 = false) (h11 : D 11 = false)
    (hW : Below W.heap.size W w) (hP : ∀ j, j < 9 → D j = true → PA j (v j) w) (hPb : ∀ (j : Nat) (u : Value) (a b : World), Below a.heap.size a b → PA j u a → PA j u b) (hb : Below w.heap.size w w') (hval : PA i val w') :
    Inv12 F PA RB FIN W g n (updD D i) ⟨F (fun j => if j = i then val else v j), []⟩ w' := by
  refine ⟨_, rfl, fun _ => ⟨hW.trans (hb.mono hW.size), fun j hj hD => ?_⟩, fun h => ?_, fun h => ?_⟩
  · by_cases hji : j = i
    · subst hji
      simp only [if_true]
      exact hval
    · rw [if_neg hji]
      exact hPb j _ _ _ hb (hP j hj (by simpa [updD, hji] using hD))
  · unfold updD at h
    rw [if_neg (by omega), h9] at h
    cases h
  · unfold updD at h
    rw [if_neg (by omega), h11] at h
    cases h
def P12 (L : List UInt8) (A : Option Addr) (b off nw c g k n cq : Nat) (x4 : ByteArray) : Nat → Value → World → Prop
  | 0, v, _ => v = .pointer (some ⟨g, 6, none⟩)
  | 1, v, _ => v = .slice A n cq
  | 2, v, _ => v = .slice (some ⟨b, off, none⟩) nw c
  | 3, v, _ => v = .pointer (some ⟨b, off + 4, none⟩)
  | 4, v, _ => v = .string x4
  | 5, v, w => Wd (wordsOf (lnB L 4)) v w
  | 6, v, _ => v = .int .i64 k
  | 7, v, _ => v = .int .i64 (digitsB (wordsOf (lnB L 4)) k)
  | 8, v, w => ∃ h, v = .slice (some ⟨h, 0, none⟩) 1 1 ∧ h < w.heap.size ∧ w.cell? ⟨h, 0, none⟩ = some (.int .i64 (digitsB (wordsOf (lnB L 4)) k))
  | _, _, _ => True
theorem P12.below {L : List UInt8} {A : Option Addr} {b off nw c g k n cq : Nat} {x4 : ByteArray} : ∀ (j : Nat) (u : Value) (w w' : World), Below w.heap.size w w' → P12 L A b off nw c g k n cq x4 j u w → P12 L A b off nw c g k n cq x4 j u w'
  | 0, _, _, _, _, h => h
  | 1, _, _, _, _, h => h
  | 2, _, _, _, _, h => h
  | 3, _, _, _, _, h => h
  | 4, _, _, _, _, h => h
  | 5, _, _, _, hb, h => Wd.below h hb
  | 6, _, _, _, _, h => h
  | 7, _, _, _, _, h => h
  | 8, _, _, _, hb, ⟨h, h1, h2, h3⟩ => ⟨h, h1, Nat.lt_of_lt_of_le h2 hb.size, (hb.cell (p := ⟨h, 0, none⟩) h2).trans h3⟩
  | _ + 9, _, _, _, _, h => h
def pick11 (a0 a1 a2 a3 a4 a5 a6 a7 a8 a9 a10 : Value) : Nat → Value
  | 0 => a0 | 1 => a1 | 2 => a2 | 3 => a3 | 4 => a4 | 5 => a5 | 6 => a6 | 7 => a7 | 8 => a8 | 9 => a9 | 10 => a10 | _ => undef
/-- What the lines say, with the first cells. -/
def alC (L : List UInt8) (n : Nat) : Alr := { al8 L with cells := (cellsB (wordsOf (lnB L 4))).take n }
theorem cellsB_len (ws : List (List UInt8)) : (cellsB ws).length = min 384 (ws.length - 1) := by simp [cellsB]
theorem cellsB_next {ws : List (List UInt8)} {n : Nat} (h : n + 1 < ws.length) (h2 : n + 1 ≤ 384) : (cellsB ws).take (n + 1) = (cellsB ws).take n ++ [digitsB ws (n + 1)] := by
  have hl : n < (cellsB ws).length := by rw [cellsB_len]; omega
  rw [List.take_succ_eq_append_getElem hl]
  congr 2
  unfold digitsB
  rw [List.getElem?_eq_getElem h]
  simp [cellsB]
theorem alC_len {L : List UInt8} {n : Nat} (h : n ≤ (cellsB (wordsOf (lnB L 4))).length) : (alC L n).cells.length = n := by
  show ((cellsB (wordsOf (lnB L 4))).take n).length = n
  rw [List.length_take]
  omega
theorem alC_all {L : List UInt8} {n : Nat} (h : (cellsB (wordsOf (lnB L 4))).length ≤ n) : alC L n = parseB L := by
  unfold alC
  rw [List.take_of_length_le h]
  show (⟨_, _, _, _, _, _, _, _, _⟩ : Alr) = ⟨_, _, _, _, _, _, _, _, _⟩
  congr 1
  show (wordB (wordsOf (lnB L 4)) 0 == sWithdrawn) = decide (wordB (wordsOf (lnB L 4)) 0 = sWithdrawn)
  rw [Bool.eq_iff_iff]
  simp
def RqRel (L : List UInt8) (wo : World) (base g : Nat) (i : Value) (wr : World) : Prop :=
  ∃ (k n : Nat) (A : Option Addr) (c : Nat), k ≤ (cellsB (wordsOf (lnB L 4))).length + 1 ∧ 1 ≤ k ∧ Hid (n + 1 = k) ∧ i = .int .i64 k ∧ Hid (Bxa wr wo.heap.size g (alC L n) A c) ∧ Hid (wr.ownsRow base 3 1 (.slice A n c) n (ints ((cellsB (wordsOf (lnB L 4))).take n))) ∧ Hid (Below wo.heap.size wo wr) ∧ base ≤ wr.heap.size
def PdRel (s : ByteArray) (w : World) (o : Value) (wr : World) : Prop :=
  ∃ (ws : List ByteArray) (A : Option Addr) (c m : Nat), o = .slice A ws.length c ∧ Hid (lst ws = cutAt 10 s.data.toList ++ List.replicate m []) ∧ ws.length ≤ s.size + 8 ∧ Hid (∀ x ∈ ws, x.size ≤ s.size) ∧ Hid (wr.ownsRow w.heap.size 9 1 (.slice A ws.length c) ws.length (strs ws)) ∧ Hid (Below w.heap.size w wr)
theorem pad_get {l : List (List UInt8)} {m i : Nat} (h : i < (l ++ List.replicate m []).length) : (l ++ List.replicate m [])[i] = l.getD i [] := by
  by_cases hi : i < l.length
  · rw [List.getElem_append_left hi, List.getD_eq_getElem?_getD, List.getElem?_eq_getElem hi]; rfl
  · rw [List.getElem_append_right (by omega), List.getElem_replicate, List.getD_eq_getElem?_getD, List.getElem?_eq_none (by omega)]; rfl
end Go.Proofs.YtmpbhngjkbidcaaGreatDoor
