/-
  The walk of the specification's Parse.
-/
import Derived.Test.YtohfofecbdfkgaaGreatDoorCw
import Derived.Test.YtohfofecbdfkgaaGreatDoorBx
import Derived.Test.YtohfofecbdfkgaaGreatDoorIv
import Derived.Test.YtohfofecbdfkgaaGreatDoorU13
import Derived.Deep.RegionHeld3
import Derived.Deep.RegionLaw
import Derived.Deep.AppendLies
namespace Go.Proofs.YtohfofecbdfkgaaGreatDoor
open Go.RowKit Al
theorem Sl.belowS {w w' : World} {sz n c : Nat} {A : Option Addr} {xs : List Value} (h : Sl w w.heap.size sz A n c xs) (hb : Below w.heap.size w w') : Sl w' w'.heap.size sz A n c xs := (h.below hb).more hb.size
/-- A line of a text, by its number. -/
def lnB (s : List UInt8) (i : Nat) : List UInt8 := (cutAt 10 s).getD i []
/-- Words in memory. -/
def Wd (l : List (List UInt8)) (v : Value) (w : World) : Prop := ∃ (zs : List ByteArray) (A : Option Addr) (c : Nat), v = .slice A zs.length c ∧ Sl w w.heap.size 1 A zs.length c (strs zs) ∧ lst zs = l ∧ ∀ x ∈ zs, x.size ≤ 65536
theorem Wd.below {l : List (List UInt8)} {v : Value} {w w' : World} (h : Wd l v w) (hb : Below w.heap.size w w') : Wd l v w' := by
  obtain ⟨zs, A, c, h1, h2, h3, h4⟩ := h
  exact ⟨zs, A, c, h1, (h2.below hb).more hb.size, h3, h4⟩
theorem wordB_short (l : List UInt8) (j i : Nat) : (wordB (wordsOf (lnB l j)) i).length ≤ l.length := by
  unfold wordB
  refine getD_short (fun p hp => ?_) i
  unfold wordsOf at hp
  exact Nat.le_trans (cutAt_short 32 _ p (List.mem_filter.1 hp).1) (getD_short (cutAt_short 10 l) j)
theorem digitsN_ (ws : List ByteArray) (l : List (List UInt8)) (hl : lst ws = l) (A : Option Addr) (c i : Nat) (w : World) (h : Sl w w.heap.size 1 A ws.length c (strs ws)) (hm : ∀ x ∈ ws, x.size ≤ 65536) (hi : i ≤ 1000000) :
    Calls Tryz.prog 88 #[.slice A ws.length c, .int .i64 i] w fun e w' => e = .returned (.int .i64 (digitsB l i)) ∧ w = w' := by
  subst hl
  exact digits_ ws A c i w h hm hi
/-- What the lines 0, 1, 3 and 5 say. -/
def al6 (L : List UInt8) : Alr := ⟨⟨(wordB (wordsOf (lnB L 0)) 1).toArray⟩, digitsB (wordsOf (lnB L 0)) 2, digitsB (wordsOf (lnB L 1)) 1, 0, 0, digitsB (wordsOf (lnB L 3)) 1, [], false, digitsB (wordsOf (lnB L 5)) 1⟩
/-- What the lines 0, 1, 2, 3 and 5 say. -/
def al7 (L : List UInt8) : Alr := { al6 L with n := digitsB (wordsOf (lnB L 2)) 1, of := digitsB (wordsOf (lnB L 2)) 2 }
def al8 (L : List UInt8) : Alr := { al7 L with wd := wordB (wordsOf (lnB L 4)) 0 == [119, 105, 116, 104, 100, 114, 97, 119, 110] }
def P6 (n c b off B : Nat) (x0 x1 x3 x5 : ByteArray) (L : List UInt8) : Nat → Value → World → Prop
  | 0, v, _ => v = .slice (some ⟨b, off, none⟩) n c
  | 1, v, _ => v = .pointer (some ⟨b, off, none⟩)
  | 2, v, _ => v = .string x0
  | 3, v, w => Wd (wordsOf (lnB L 0)) v w
  | 4, v, _ => v = (.string ⟨(wordB (wordsOf (lnB L 0)) 1).toArray⟩)
  | 5, v, _ => v = .slice (some ⟨b, off, none⟩) n c
  | 6, v, _ => v = .pointer (some ⟨b, off, none⟩)
  | 7, v, _ => v = .string x0
  | 8, v, w => Wd (wordsOf (lnB L 0)) v w
  | 9, v, _ => v = (.int .i64 (digitsB (wordsOf (lnB L 0)) 2))
  | 10, v, _ => v = .slice (some ⟨b, off, none⟩) n c
  | 11, v, _ => v = .pointer (some ⟨b, off + 1, none⟩)
  | 12, v, _ => v = .string x1
  | 13, v, w => Wd (wordsOf (lnB L 1)) v w
  | 14, v, _ => v = (.int .i64 (digitsB (wordsOf (lnB L 1)) 1))
  | 15, v, _ => v = .slice (some ⟨b, off, none⟩) n c
  | 16, v, _ => v = .pointer (some ⟨b, off + 3, none⟩)
  | 17, v, _ => v = .string x3
  | 18, v, w => Wd (wordsOf (lnB L 3)) v w
  | 19, v, _ => v = (.int .i64 (digitsB (wordsOf (lnB L 3)) 1))
  | 20, v, _ => v = .slice (some ⟨b, off, none⟩) n c
  | 21, v, _ => v = .pointer (some ⟨b, off + 5, none⟩)
  | 22, v, _ => v = .string x5
  | 23, v, w => Wd (wordsOf (lnB L 5)) v w
  | 24, v, _ => v = (.int .i64 (digitsB (wordsOf (lnB L 5)) 1))
  | 25, v, _ => v = (al6 L).val none 0
  | 26, v, w => ∃ g, v = .pointer (some ⟨g, 0, none⟩) ∧ Bxa w B g Al.zero none 0
  | _, _, _ => True
theorem P6.below {n c b off B : Nat} {x0 x1 x3 x5 : ByteArray} {L : List UInt8} {w w' : World} (hb : Below w.heap.size w w') : ∀ (j : Nat) (v : Value), P6 n c b off B x0 x1 x3 x5 L j v w → P6 n c b off B x0 x1 x3 x5 L j v w'
  | 0, _, h => h
  | 1, _, h => h
  | 2, _, h => h
  | 3, _, h => Wd.below h hb
  | 4, _, h => h
  | 5, _, h => h
  | 6, _, h => h
  | 7, _, h => h
  | 8, _, h => Wd.below h hb
  | 9, _, h => h
  | 10, _, h => h
  | 11, _, h => h
  | 12, _, h => h
  | 13, _, h => Wd.below h hb
  | 14, _, h => h
  | 15, _, h => h
  | 16, _, h => h
  | 17, _, h => h
  | 18, _, h => Wd.below h hb
  | 19, _, h => h
  | 20, _, h => h
  | 21, _, h => h
  | 22, _, h => h
  | 23, _, h => Wd.below h hb
  | 24, _, h => h
  | 25, _, h => h
  | 26, _, ⟨g, h1, h2⟩ => ⟨g, h1, h2.below hb⟩
  | 27, _, h => h
  | _ + 28, _, h => h
/-- What holds while the region goes on. -/
def Inv6 (n c b off B : Nat) (x0 x1 x3 x5 : ByteArray) (L : List UInt8) (W : World) (F : (Nat → Value) → Array Value) (x6 : Alr) (D : Nat → Bool) (a : Act) (w : World) : Prop :=
  ∃ v : Nat → Value, a = ⟨F v, []⟩ ∧ Below W.heap.size W w ∧ (D 27 = false → ∀ j, D j = true → P6 n c b off B x0 x1 x3 x5 L j (v j) w) ∧ (D 27 = true → (∀ j, j < 27 → D j = true) ∧ ∃ g, v 26 = .pointer (some ⟨g, 0, none⟩) ∧ Bxa w B g x6 none 0)
theorem Inv6.step {n c b off B : Nat} {x0 x1 x3 x5 : ByteArray} {L : List UInt8} {W : World} {F : (Nat → Value) → Array Value} {x6 : Alr} {D : Nat → Bool} {w w' : World} {v : Nat → Value} {val : Value} {i : Nat} (hi : i < 27) (hB : Below W.heap.size W w) (h27 : D 27 = false)
    (hP : ∀ j, D j = true → P6 n c b off B x0 x1 x3 x5 L j (v j) w) (hb : Below w.heap.size w w') (hval : P6 n c b off B x0 x1 x3 x5 L i val w') : Inv6 n c b off B x0 x1 x3 x5 L W F x6 (updD D i) ⟨F (fun j => if j = i then val else v j), []⟩ w' := by
  refine ⟨_, rfl, hB.trans (hb.mono hB.size), fun _ j hj => ?_, fun h => ?_⟩
  · by_cases hji : j = i
    · subst hji
      simp only [if_true]
      exact hval
    · rw [if_neg hji]
      exact P6.below hb j _ (hP j (by simpa [updD, hji] using hj))
  · unfold updD at h
    rw [if_neg (by omega), h27] at h
    cases h
theorem news1 {w : World} {g : Nat} {d : Value} (hc : w.cell? ⟨g, 0, none⟩ = some d) : ∀ j u, [d][j]? = some u → w.cell? ((⟨g, 0, none⟩ : Addr).add j) = some u := fun j u hu => by
  rcases j with _ | j
  · cases hu
    rw [Addr.add_lit]
    exact hc
  · cases hu
/-- A region that collects: what it reads, one append, one store. -/
def Inv12 (F : (Nat → Value) → Array Value) (PA : Nat → Value → World → Prop) (RB : Nat → Nat → World → Prop) (FIN : World → Prop) (W : World) (g n : Nat) (D : Nat → Bool) (a : Act) (w : World) : Prop :=
  ∃ v : Nat → Value, a = ⟨F v, []⟩ ∧ (D 9 = false → Below W.heap.size W w ∧ ∀ j, j < 9 → D j = true → PA j (v j) w) ∧
    (D 9 = true → D 11 = false → ∃ gA capA, v 9 = .slice (some ⟨gA, 0, none⟩) (n + 1) capA ∧ RB gA capA w ∧ (D 10 = true → v 10 = .pointer (some ⟨g, 6, none⟩))) ∧ (D 11 = true → FIN w)
theorem Inv12.step {F : (Nat → Value) → Array Value} {PA : Nat → Value → World → Prop} {RB : Nat → Nat → World → Prop} {FIN : World → Prop} {W : World} {g n : Nat} {D : Nat → Bool} {w w' : World} {v : Nat → Value} {val : Value} {i : Nat} (hi : i < 9) (h9 : D 9 = false) (h11 : D 11 = false)
    (hW : Below W.heap.size W w) (hP : ∀ j, j < 9 → D j = true → PA j (v j) w) (hPb : ∀ (j : Nat) (u : Value) (a b : World), Below a.heap.size a b → PA j u a → PA j u b) (hb : Below w.heap.size w w') (hval : PA i val w') :
    Inv12 F PA RB FIN W g n (updD D i) ⟨F (fun j => if j = i then val else v j), []⟩ w' := by
  refine ⟨_, rfl, fun _ => ⟨hW.trans (hb.mono hW.size), fun j hj hD => ?_⟩, fun h => ?_, fun h => ?_⟩
  · by_cases hji : j = i
    · subst hji
      simp only [if_true]
      exact hval
    · rw [if_neg hji]
      exact hPb j _ _ _ hb (hP j hj (by simpa [updD, hji] using hD))
  · unfold updD at h
    rw [if_neg (by omega), h9] at h
    cases h
  · unfold updD at h
    rw [if_neg (by omega), h11] at h
    cases h
def P12 (L : List UInt8) (A : Option Addr) (b off nw c g k n cq : Nat) (x4 : ByteArray) : Nat → Value → World → Prop
  | 0, v, _ => v = .pointer (some ⟨g, 6, none⟩)
  | 1, v, _ => v = .slice A n cq
  | 2, v, _ => v = .slice (some ⟨b, off, none⟩) nw c
  | 3, v, _ => v = .pointer (some ⟨b, off + 4, none⟩)
  | 4, v, _ => v = .string x4
  | 5, v, w => Wd (wordsOf (lnB L 4)) v w
  | 6, v, _ => v = .int .i64 k
  | 7, v, _ => v = .int .i64 (digitsB (wordsOf (lnB L 4)) k)
  | 8, v, w => ∃ h, v = .slice (some ⟨h, 0, none⟩) 1 1 ∧ h < w.heap.size ∧ w.cell? ⟨h, 0, none⟩ = some (.int .i64 (digitsB (wordsOf (lnB L 4)) k))
  | _, _, _ => True
theorem P12.below {L : List UInt8} {A : Option Addr} {b off nw c g k n cq : Nat} {x4 : ByteArray} : ∀ (j : Nat) (u : Value) (w w' : World), Below w.heap.size w w' → P12 L A b off nw c g k n cq x4 j u w → P12 L A b off nw c g k n cq x4 j u w'
  | 0, _, _, _, _, h => h
  | 1, _, _, _, _, h => h
  | 2, _, _, _, _, h => h
  | 3, _, _, _, _, h => h
  | 4, _, _, _, _, h => h
  | 5, _, _, _, hb, h => Wd.below h hb
  | 6, _, _, _, _, h => h
  | 7, _, _, _, _, h => h
  | 8, _, _, _, hb, ⟨h, h1, h2, h3⟩ => ⟨h, h1, Nat.lt_of_lt_of_le h2 hb.size, (hb.cell (p := ⟨h, 0, none⟩) h2).trans h3⟩
  | _ + 9, _, _, _, _, h => h
def pick11 (a0 a1 a2 a3 a4 a5 a6 a7 a8 a9 a10 : Value) : Nat → Value
  | 0 => a0 | 1 => a1 | 2 => a2 | 3 => a3 | 4 => a4 | 5 => a5 | 6 => a6 | 7 => a7 | 8 => a8 | 9 => a9 | 10 => a10 | _ => undef
/-- What the lines say, with the first cells. -/
def alC (L : List UInt8) (n : Nat) : Alr := { al8 L with cells := (cellsB (wordsOf (lnB L 4))).take n }
theorem cellsB_len (ws : List (List UInt8)) : (cellsB ws).length = min 384 (ws.length - 1) := by simp [cellsB]
theorem cellsB_next {ws : List (List UInt8)} {n : Nat} (h : n + 1 < ws.length) (h2 : n + 1 ≤ 384) : (cellsB ws).take (n + 1) = (cellsB ws).take n ++ [digitsB ws (n + 1)] := by
  have hl : n < (cellsB ws).length := by rw [cellsB_len]; omega
  rw [List.take_succ_eq_append_getElem hl]
  congr 2
  unfold digitsB
  rw [List.getElem?_eq_getElem h]
  simp [cellsB, Nat.add_comm 1 n]
theorem alC_len {L : List UInt8} {n : Nat} (h : n ≤ (cellsB (wordsOf (lnB L 4))).length) : (alC L n).cells.length = n := by
  show ((cellsB (wordsOf (lnB L 4))).take n).length = n
  rw [List.length_take]
  omega
theorem alC_all {L : List UInt8} {n : Nat} (h : (cellsB (wordsOf (lnB L 4))).length ≤ n) : alC L n = parseB L := by
  unfold alC
  rw [List.take_of_length_le h]
  show (⟨_, _, _, _, _, _, _, _, _⟩ : Alr) = ⟨_, _, _, _, _, _, _, _, _⟩
  congr 1
  show (wordB (wordsOf (lnB L 4)) 0 == sWithdrawn) = decide (wordB (wordsOf (lnB L 4)) 0 = sWithdrawn)
  rw [Bool.eq_iff_iff]
  simp
def RqRel (L : List UInt8) (wo : World) (base g : Nat) (i : Value) (wr : World) : Prop :=
  ∃ (k n : Nat) (A : Option Addr) (c : Nat), k ≤ (cellsB (wordsOf (lnB L 4))).length + 1 ∧ 1 ≤ k ∧ Hid (n + 1 = k) ∧ i = .int .i64 k ∧ Hid (Bxa wr wo.heap.size g (alC L n) A c) ∧ Hid (wr.ownsRow base 3 1 (.slice A n c) n (ints ((cellsB (wordsOf (lnB L 4))).take n))) ∧ Hid (Below wo.heap.size wo wr) ∧ base ≤ wr.heap.size
def PdRel (s : ByteArray) (w : World) (o : Value) (wr : World) : Prop :=
  ∃ (ws : List ByteArray) (A : Option Addr) (c m : Nat), o = .slice A ws.length c ∧ Hid (lst ws = cutAt 10 s.data.toList ++ List.replicate m []) ∧ ws.length ≤ s.size + 8 ∧ Hid (∀ x ∈ ws, x.size ≤ s.size) ∧ Hid (wr.ownsRow w.heap.size 9 1 (.slice A ws.length c) ws.length (strs ws)) ∧ Hid (Below w.heap.size w wr)
theorem pad_get {l : List (List UInt8)} {m i : Nat} (h : i < (l ++ List.replicate m []).length) : (l ++ List.replicate m [])[i] = l.getD i [] := by
  by_cases hi : i < l.length
  · rw [List.getElem_append_left hi, List.getD_eq_getElem?_getD, List.getElem?_eq_getElem hi]; rfl
  · rw [List.getElem_append_right (by omega), List.getElem_replicate, List.getD_eq_getElem?_getD, List.getElem?_eq_none (by omega)]; rfl
set_option maxRecDepth 100000 in
set_option maxHeartbeats 8000000 in
theorem rParse_t (s : ByteArray) (w : World) (hs : s.size ≤ 65536) : Calls Tryz.prog 39 #[.string s] w (OwnT w.heap.size (parseR parseB s.data.toList).1 (parseR parseB s.data.toList).2 w) := by
  obtain ⟨i0, hi, hz0, hz1, hz2⟩ := info_parts infoStr
  obtain ⟨j0, hj, hj0, hj1, hj2⟩ := info_parts infoInt
  have hs1 : ¬ (65536 : Int) < (s.size : Int) := by omega
  go_enter Tryz.func39, Tryz.ntmps39
  go_wp2_with fail
  refine (Cut_ s 10 _ hs).mono ?_
  rintro e w1 ⟨zs, Z, zc, hz, rfl, hown, hsz0, hb⟩
  obtain ⟨W0, hW0⟩ : ∃ W0, W0 = w.alloc (.cells (Al.zero.val none 0).cells 48) := ⟨_, rfl⟩
  have zW : W0.heap.size = w.heap.size + 1 := by rw [hW0]; simp
  have hB0 : Below w.heap.size w W0 := by rw [hW0]; (repeat (first | exact Below.refl _ _ | assumption | refine below_drewN ?_ _ | refine Below.drew ?_ | refine Below.setCell ?_ (by first | omega | (simp; done) | (simp; omega)) _ | refine Below.alloc ?_ (by first | omega | (simp; done) | (simp; omega)) _))
  have HRB : Hid (Bxa W0 w.heap.size w.heap.size Al.zero none 0) := by show Bxa _ _ _ _ _ _; rw [hW0]; exact Bxa.new (Nat.le_refl _)
  have hown' : w1.ownsRow W0.heap.size 9 1 (.slice Z zs.length zc) zs.length (strs zs) := by rw [hW0]; exact hown
  have hb' : Below W0.heap.size W0 w1 := by rw [hW0]; exact hb
  clear hown hb
  have hzl : zs.length ≤ s.size + 1 := by
    have h1 : (lst zs).length ≤ s.data.toList.length + 1 := by rw [hz]; exact cutAt_len 10 _
    rw [lst_len] at h1
    simpa using h1
  have HREL : Hid (PdRel s W0 (.slice Z zs.length zc) w1) := ⟨zs, Z, zc, 0, rfl, Lib.hid (by rw [hz]; simp), by omega, Lib.hid hsz0, Lib.hid hown', Lib.hid hb'⟩
  have HB0 := Lib.hid hB0
  have HzW := Lib.hid zW
  clear hz hsz0 hown' hb' hB0 hW0 zW
  go_wp2_with fail
  go_loopw [4] (fun o wr => PdRel s W0 o wr) (fun o _ => match o with | .slice _ n _ => 6 - n | _ => 0)
  case atStart => exact HREL.out
  case round =>
    clear HREL
    obtain ⟨ws, A, c, m, rfl, HC, hwl, HS, HO, HB⟩ := hrel
    have hsz := HB.out.size
    by_cases hlt : ws.length < 6
    · have i1' : (ws.length : Int) < 6 := by omega
      go_wp2_with (at_builtin; refine wpList_append_lies _ rfl _ _ 83 rfl W0.heap.size 9 i0 (.string ⟨#[]⟩) 1 16 Tryz.underlying83 hi hz0 hz1 hz2 rfl (by decide) (.slice A ws.length c) ws.length (strs ws) rfl (own_below HO.out (Nat.le_refl _) (by (repeat (first | exact Below.refl _ _ | assumption | refine below_drewN ?_ _ | refine Below.drew ?_ | refine Below.setCell ?_ (by first | omega | (simp; done) | (simp; omega)) _ | refine Below.alloc ?_ (by first | omega | (simp; done) | (simp; omega)) _)))) _ 1 1 [.string ⟨#[]⟩] rfl rfl (World.news_of_block (heap_alloc_new wr _)) (strs_one [⟨#[]⟩]) (by decide) (by unfold maxLen; omega) (by omega) (by simp; omega) _ rfl ?_; intro gA capA wA hownA hgA hatA hltA)
      go_roundw
      case rel =>
        refine ⟨ws ++ [⟨#[]⟩], some ⟨gA, 0, none⟩, capA, m + 1, by rw [List.length_append]; rfl, ?_, by rw [List.length_append]; simp; omega, ?_, ?_, ?_⟩
        · show _ = _
          rw [lst_snoc, HC.out, List.append_assoc, List.replicate_succ']
        · intro x hx
          rcases List.mem_append.1 hx with hx | hx
          · exact HS.out x hx
          · rw [List.mem_singleton.1 hx]; exact Nat.zero_le _
        · show World.ownsRow _ _ _ _ _ _ _
          rw [strs_snoc, List.length_append]
          exact hownA
        · exact ((HB.out.alloc hsz _).grown hgA (by simp; omega) (fun g hg => own_base HO.out hg))
      case measure => simp; omega
    · have i1' : ¬ (ws.length : Int) < 6 := by omega
      have h6 : 6 ≤ ws.length := by omega
      go_wp2_with fail
      obtain ⟨hbo, z0'⟩ : (∃ b off, A = some ⟨b, off, none⟩ ∧ b < wr.heap.size ∧ ∀ j (h : j < ws.length), wr.cell? ⟨b, off + j, none⟩ = some (.string ws[j])) ∧ True := ⟨by
        obtain ⟨b, off, e, hb, hc⟩ := (Sl.of_own HO.out).at_ (by omega)
        exact ⟨b, off, e, hb, fun j h => hc j _ (by simp [strs, h])⟩, trivial⟩
      obtain ⟨b, off, rfl, hbw, hc⟩ := hbo
      have hw : ∀ j (h : j < ws.length), ws[j].data.toList = lnB s.data.toList j := fun j h => by
        have h1 := lst_get h
        have h2 : j < (cutAt 10 s.data.toList ++ List.replicate m []).length := by rw [← HC.out, lst_len]; exact h
        rw [HC.out, List.getElem?_eq_getElem h2, pad_get h2] at h1
        exact (Option.some.inj h1).symm
      have z0 := hc 0 (by omega)
      have z1 := hc 1 (by omega)
      have z2 := hc 2 (by omega)
      have z3 := hc 3 (by omega)
      have z4 := hc 4 (by omega)
      have z5 := hc 5 (by omega)
      have e0 := hw 0 (by omega)
      have e1 := hw 1 (by omega)
      have e2 := hw 2 (by omega)
      have e3 := hw 3 (by omega)
      have e4 := hw 4 (by omega)
      have e5 := hw 5 (by omega)
      have m0 := HS.out ws[0] (List.getElem_mem _)
      have m1 := HS.out ws[1] (List.getElem_mem _)
      have m2 := HS.out ws[2] (List.getElem_mem _)
      have m3 := HS.out ws[3] (List.getElem_mem _)
      have m4 := HS.out ws[4] (List.getElem_mem _)
      have m5 := HS.out ws[5] (List.getElem_mem _)
      obtain ⟨x0, hx0⟩ : ∃ x, x = ws[0] := ⟨_, rfl⟩
      obtain ⟨x1, hx1⟩ : ∃ x, x = ws[1] := ⟨_, rfl⟩
      obtain ⟨x2, hx2⟩ : ∃ x, x = ws[2] := ⟨_, rfl⟩
      obtain ⟨x3, hx3⟩ : ∃ x, x = ws[3] := ⟨_, rfl⟩
      obtain ⟨x4, hx4⟩ : ∃ x, x = ws[4] := ⟨_, rfl⟩
      obtain ⟨x5, hx5⟩ : ∃ x, x = ws[5] := ⟨_, rfl⟩
      rw [← hx0] at z0 e0 m0
      rw [← hx1] at z1 e1 m1
      rw [← hx2] at z2 e2 m2
      rw [← hx3] at z3 e3 m3
      rw [← hx4] at z4 e4 m4
      rw [← hx5] at z5 e5 m5
      simp only [Nat.add_zero] at z0
      clear hx0 hx1 hx2 hx3 hx4 hx5 z0'
      have H24 := Lib.hid (And.intro (And.intro z2 (And.intro e2 m2)) (And.intro z4 (And.intro e4 m4)))
      clear z2 e2 m2 z4 e4 m4
      refine wp_region_inv (Inv := Inv6 ws.length c b off wr.heap.size x0 x1 x3 x5 s.data.toList wr (fun v => #[.string s, undef, .pointer (some ⟨w.heap.size, 0, none⟩), .int .i64 0, .slice (some ⟨b, off, none⟩) ws.length c, v 26, undef, .string s, .int .i64 s.size, .bool false, undef, .string s, .slice Z zs.length zc, .slice (some ⟨b, off, none⟩) ws.length c, .int .i64 ws.length, .bool false, u16, u17, u18, v 0, v 1, v 2, v 3, v 4, v 5, v 6, v 7, v 8, v 9, v 10, v 11, v 12, v 13, v 14, v 15, v 16, v 17, v 18, v 19, v 20, v 21, v 22, v 23, v 24, v 25, undef, undef, undef, undef, undef, undef, undef, undef, undef, undef, undef, undef, undef, undef, undef, undef, undef, undef, undef, undef, undef, undef, undef, undef, undef, undef, undef, undef, undef, undef, undef, undef, undef, undef, undef, undef, undef, undef, undef, undef, undef, undef, undef, undef, undef, undef, undef, undef, undef, undef, undef, undef, undef, undef]) (al6 s.data.toList)) (by kernel_rfl) (by kernel_rfl) ⟨fun _ => undef, rfl, (Below.refl _ _).drew, fun _ j h => (by cases h), fun h => (by cases h)⟩ ?_ ?_
      · rintro D a W i o ho hD hdep ⟨v, rfl, hB, hP, hF⟩
        have hi : i < 28 := (Array.getElem?_eq_some_iff.1 ho).1
        have h27 : D 27 = false := by
          cases h : D 27 with
          | false => rfl
          | true =>
            by_cases h28 : i = 27
            · rw [h28, h] at hD; cases hD
            · rw [(hF h).1 i (by omega)] at hD; cases hD
        replace hP := hP h27
        clear hF
        obtain rfl | rfl | rfl | rfl | rfl | rfl | rfl | rfl | rfl | rfl | rfl | rfl | rfl | rfl | rfl | rfl | rfl | rfl | rfl | rfl | rfl | rfl | rfl | rfl | rfl | rfl | rfl | rfl := (show i = 0 ∨ i = 1 ∨ i = 2 ∨ i = 3 ∨ i = 4 ∨ i = 5 ∨ i = 6 ∨ i = 7 ∨ i = 8 ∨ i = 9 ∨ i = 10 ∨ i = 11 ∨ i = 12 ∨ i = 13 ∨ i = 14 ∨ i = 15 ∨ i = 16 ∨ i = 17 ∨ i = 18 ∨ i = 19 ∨ i = 20 ∨ i = 21 ∨ i = 22 ∨ i = 23 ∨ i = 24 ∨ i = 25 ∨ i = 26 ∨ i = 27 from by omega)
        · obtain rfl := Option.some.inj (show some _ = some o from ho)
          refine wpOp_list ho rfl ?_
          go_wp2_with fail
          simp only [exK]
          exact Inv6.step (i := 0) (by decide) hB h27 hP (Below.refl _ _) rfl
        · obtain rfl := Option.some.inj (show some _ = some o from ho)
          refine wpOp_list ho rfl ?_
          have d0 : D 0 = true := hdep { on := 0, ground := .data } (by simp) rfl
          have hlen0 : (0 : Int) < (ws.length : Int) := by omega
          obtain ⟨u0, rfl⟩ := fixV (show v 0 = _ from hP 0 d0)
          go_wp2_with fail
          simp only [exK]
          exact Inv6.step (i := 1) (by decide) hB h27 hP (Below.refl _ _) rfl
        · obtain rfl := Option.some.inj (show some _ = some o from ho)
          refine wpOp_list ho rfl ?_
          have d1 : D 1 = true := hdep { on := 1, ground := .data } (by simp) rfl
          obtain ⟨u1, rfl⟩ := fixV (show v 1 = _ from hP 1 d1)
          have z := (hB.cell (p := ⟨b, off, none⟩) hbw).trans z0
          go_wp2_with fail
          simp only [exK]
          exact Inv6.step (i := 2) (by decide) hB h27 hP (Below.refl _ _) rfl
        · obtain rfl := Option.some.inj (show some _ = some o from ho)
          refine wpOp_list ho rfl ?_
          have d2 : D 2 = true := hdep { on := 2, ground := .data } (by simp) rfl
          obtain ⟨u2, rfl⟩ := fixV (show v 2 = _ from hP 2 d2)
          go_wp2_with fail
          refine (Words_ x0 _ (Nat.le_trans m0 hs)).mono ?_
          rintro e w2 ⟨ys, Y, yc, hy, rfl, hown, hsz, hb⟩
          go_wp2_with fail
          simp only [exK]
          exact Inv6.step (i := 3) (by decide) hB h27 hP hb ⟨ys, Y, yc, rfl, Sl.of_own hown, by rw [hy, e0], fun y hy => Nat.le_trans (hsz y hy) (Nat.le_trans m0 hs)⟩
        · obtain rfl := Option.some.inj (show some _ = some o from ho)
          refine wpOp_list ho rfl ?_
          have d3 : D 3 = true := hdep { on := 3, ground := .data } (by simp) rfl
          obtain ⟨ys, Y, yc, hv3, hsl, hl3, hm3⟩ := (show Wd _ (v 3) W from hP 3 d3)
          obtain ⟨u3, rfl⟩ := fixV hv3
          go_wp2_with fail
          refine (word_ ys Y yc 1 _ hsl (by decide)).mono ?_
          rintro e w2 ⟨rfl, rfl⟩
          go_wp2_with fail
          simp only [exK]
          exact Inv6.step (i := 4) (by decide) hB h27 hP (Below.refl _ _) (by first | rfl | (rw [hl3]; rfl))
        · obtain rfl := Option.some.inj (show some _ = some o from ho)
          refine wpOp_list ho rfl ?_
          go_wp2_with fail
          simp only [exK]
          exact Inv6.step (i := 5) (by decide) hB h27 hP (Below.refl _ _) rfl
        · obtain rfl := Option.some.inj (show some _ = some o from ho)
          refine wpOp_list ho rfl ?_
          have d5 : D 5 = true := hdep { on := 5, ground := .data } (by simp) rfl
          have hlen0 : (0 : Int) < (ws.length : Int) := by omega
          obtain ⟨u5, rfl⟩ := fixV (show v 5 = _ from hP 5 d5)
          go_wp2_with fail
          simp only [exK]
          exact Inv6.step (i := 6) (by decide) hB h27 hP (Below.refl _ _) rfl
        · obtain rfl := Option.some.inj (show some _ = some o from ho)
          refine wpOp_list ho rfl ?_
          have d6 : D 6 = true := hdep { on := 6, ground := .data } (by simp) rfl
          obtain ⟨u6, rfl⟩ := fixV (show v 6 = _ from hP 6 d6)
          have z := (hB.cell (p := ⟨b, off, none⟩) hbw).trans z0
          go_wp2_with fail
          simp only [exK]
          exact Inv6.step (i := 7) (by decide) hB h27 hP (Below.refl _ _) rfl
        · obtain rfl := Option.some.inj (show some _ = some o from ho)
          refine wpOp_list ho rfl ?_
          have d7 : D 7 = true := hdep { on := 7, ground := .data } (by simp) rfl
          obtain ⟨u7, rfl⟩ := fixV (show v 7 = _ from hP 7 d7)
          go_wp2_with fail
          refine (Words_ x0 _ (Nat.le_trans m0 hs)).mono ?_
          rintro e w2 ⟨ys, Y, yc, hy, rfl, hown, hsz, hb⟩
          go_wp2_with fail
          simp only [exK]
          exact Inv6.step (i := 8) (by decide) hB h27 hP hb ⟨ys, Y, yc, rfl, Sl.of_own hown, by rw [hy, e0], fun y hy => Nat.le_trans (hsz y hy) (Nat.le_trans m0 hs)⟩
        · obtain rfl := Option.some.inj (show some _ = some o from ho)
          refine wpOp_list ho rfl ?_
          have d8 : D 8 = true := hdep { on := 8, ground := .data } (by simp) rfl
          obtain ⟨ys, Y, yc, hv3, hsl, hl3, hm3⟩ := (show Wd _ (v 8) W from hP 8 d8)
          obtain ⟨u8, rfl⟩ := fixV hv3
          go_wp2_with fail
          refine (digits_ ys Y yc 2 _ hsl hm3 (by decide)).mono ?_
          rintro e w2 ⟨rfl, rfl⟩
          go_wp2_with fail
          simp only [exK]
          exact Inv6.step (i := 9) (by decide) hB h27 hP (Below.refl _ _) (by first | rfl | (rw [hl3]; rfl))
        · obtain rfl := Option.some.inj (show some _ = some o from ho)
          refine wpOp_list ho rfl ?_
          go_wp2_with fail
          simp only [exK]
          exact Inv6.step (i := 10) (by decide) hB h27 hP (Below.refl _ _) rfl
        · obtain rfl := Option.some.inj (show some _ = some o from ho)
          refine wpOp_list ho rfl ?_
          have d10 : D 10 = true := hdep { on := 10, ground := .data } (by simp) rfl
          have hlen1 : (1 : Int) < (ws.length : Int) := by omega
          obtain ⟨u10, rfl⟩ := fixV (show v 10 = _ from hP 10 d10)
          go_wp2_with fail
          simp only [exK]
          exact Inv6.step (i := 11) (by decide) hB h27 hP (Below.refl _ _) rfl
        · obtain rfl := Option.some.inj (show some _ = some o from ho)
          refine wpOp_list ho rfl ?_
          have d11 : D 11 = true := hdep { on := 11, ground := .data } (by simp) rfl
          obtain ⟨u11, rfl⟩ := fixV (show v 11 = _ from hP 11 d11)
          have z := (hB.cell (p := ⟨b, off + 1, none⟩) hbw).trans z1
          go_wp2_with fail
          simp only [exK]
          exact Inv6.step (i := 12) (by decide) hB h27 hP (Below.refl _ _) rfl
        · obtain rfl := Option.some.inj (show some _ = some o from ho)
          refine wpOp_list ho rfl ?_
          have d12 : D 12 = true := hdep { on := 12, ground := .data } (by simp) rfl
          obtain ⟨u12, rfl⟩ := fixV (show v 12 = _ from hP 12 d12)
          go_wp2_with fail
          refine (Words_ x1 _ (Nat.le_trans m1 hs)).mono ?_
          rintro e w2 ⟨ys, Y, yc, hy, rfl, hown, hsz, hb⟩
          go_wp2_with fail
          simp only [exK]
          exact Inv6.step (i := 13) (by decide) hB h27 hP hb ⟨ys, Y, yc, rfl, Sl.of_own hown, by rw [hy, e1], fun y hy => Nat.le_trans (hsz y hy) (Nat.le_trans m1 hs)⟩
        · obtain rfl := Option.some.inj (show some _ = some o from ho)
          refine wpOp_list ho rfl ?_
          have d13 : D 13 = true := hdep { on := 13, ground := .data } (by simp) rfl
          obtain ⟨ys, Y, yc, hv3, hsl, hl3, hm3⟩ := (show Wd _ (v 13) W from hP 13 d13)
          obtain ⟨u13, rfl⟩ := fixV hv3
          go_wp2_with fail
          refine (digits_ ys Y yc 1 _ hsl hm3 (by decide)).mono ?_
          rintro e w2 ⟨rfl, rfl⟩
          go_wp2_with fail
          simp only [exK]
          exact Inv6.step (i := 14) (by decide) hB h27 hP (Below.refl _ _) (by first | rfl | (rw [hl3]; rfl))
        · obtain rfl := Option.some.inj (show some _ = some o from ho)
          refine wpOp_list ho rfl ?_
          go_wp2_with fail
          simp only [exK]
          exact Inv6.step (i := 15) (by decide) hB h27 hP (Below.refl _ _) rfl
        · obtain rfl := Option.some.inj (show some _ = some o from ho)
          refine wpOp_list ho rfl ?_
          have d15 : D 15 = true := hdep { on := 15, ground := .data } (by simp) rfl
          have hlen3 : (3 : Int) < (ws.length : Int) := by omega
          obtain ⟨u15, rfl⟩ := fixV (show v 15 = _ from hP 15 d15)
          go_wp2_with fail
          simp only [exK]
          exact Inv6.step (i := 16) (by decide) hB h27 hP (Below.refl _ _) rfl
        · obtain rfl := Option.some.inj (show some _ = some o from ho)
          refine wpOp_list ho rfl ?_
          have d16 : D 16 = true := hdep { on := 16, ground := .data } (by simp) rfl
          obtain ⟨u16, rfl⟩ := fixV (show v 16 = _ from hP 16 d16)
          have z := (hB.cell (p := ⟨b, off + 3, none⟩) hbw).trans z3
          go_wp2_with fail
          simp only [exK]
          exact Inv6.step (i := 17) (by decide) hB h27 hP (Below.refl _ _) rfl
        · obtain rfl := Option.some.inj (show some _ = some o from ho)
          refine wpOp_list ho rfl ?_
          have d17 : D 17 = true := hdep { on := 17, ground := .data } (by simp) rfl
          obtain ⟨u17, rfl⟩ := fixV (show v 17 = _ from hP 17 d17)
          go_wp2_with fail
          refine (Words_ x3 _ (Nat.le_trans m3 hs)).mono ?_
          rintro e w2 ⟨ys, Y, yc, hy, rfl, hown, hsz, hb⟩
          go_wp2_with fail
          simp only [exK]
          exact Inv6.step (i := 18) (by decide) hB h27 hP hb ⟨ys, Y, yc, rfl, Sl.of_own hown, by rw [hy, e3], fun y hy => Nat.le_trans (hsz y hy) (Nat.le_trans m3 hs)⟩
        · obtain rfl := Option.some.inj (show some _ = some o from ho)
          refine wpOp_list ho rfl ?_
          have d18 : D 18 = true := hdep { on := 18, ground := .data } (by simp) rfl
          obtain ⟨ys, Y, yc, hv3, hsl, hl3, hm3⟩ := (show Wd _ (v 18) W from hP 18 d18)
          obtain ⟨u18, rfl⟩ := fixV hv3
          go_wp2_with fail
          refine (digits_ ys Y yc 1 _ hsl hm3 (by decide)).mono ?_
          rintro e w2 ⟨rfl, rfl⟩
          go_wp2_with fail
          simp only [exK]
          exact Inv6.step (i := 19) (by decide) hB h27 hP (Below.refl _ _) (by first | rfl | (rw [hl3]; rfl))
        · obtain rfl := Option.some.inj (show some _ = some o from ho)
          refine wpOp_list ho rfl ?_
          go_wp2_with fail
          simp only [exK]
          exact Inv6.step (i := 20) (by decide) hB h27 hP (Below.refl _ _) rfl
        · obtain rfl := Option.some.inj (show some _ = some o from ho)
          refine wpOp_list ho rfl ?_
          have d20 : D 20 = true := hdep { on := 20, ground := .data } (by simp) rfl
          have hlen5 : (5 : Int) < (ws.length : Int) := by omega
          obtain ⟨u20, rfl⟩ := fixV (show v 20 = _ from hP 20 d20)
          go_wp2_with fail
          simp only [exK]
          exact Inv6.step (i := 21) (by decide) hB h27 hP (Below.refl _ _) rfl
        · obtain rfl := Option.some.inj (show some _ = some o from ho)
          refine wpOp_list ho rfl ?_
          have d21 : D 21 = true := hdep { on := 21, ground := .data } (by simp) rfl
          obtain ⟨u21, rfl⟩ := fixV (show v 21 = _ from hP 21 d21)
          have z := (hB.cell (p := ⟨b, off + 5, none⟩) hbw).trans z5
          go_wp2_with fail
          simp only [exK]
          exact Inv6.step (i := 22) (by decide) hB h27 hP (Below.refl _ _) rfl
        · obtain rfl := Option.some.inj (show some _ = some o from ho)
          refine wpOp_list ho rfl ?_
          have d22 : D 22 = true := hdep { on := 22, ground := .data } (by simp) rfl
          obtain ⟨u22, rfl⟩ := fixV (show v 22 = _ from hP 22 d22)
          go_wp2_with fail
          refine (Words_ x5 _ (Nat.le_trans m5 hs)).mono ?_
          rintro e w2 ⟨ys, Y, yc, hy, rfl, hown, hsz, hb⟩
          go_wp2_with fail
          simp only [exK]
          exact Inv6.step (i := 23) (by decide) hB h27 hP hb ⟨ys, Y, yc, rfl, Sl.of_own hown, by rw [hy, e5], fun y hy => Nat.le_trans (hsz y hy) (Nat.le_trans m5 hs)⟩
        · obtain rfl := Option.some.inj (show some _ = some o from ho)
          refine wpOp_list ho rfl ?_
          have d23 : D 23 = true := hdep { on := 23, ground := .data } (by simp) rfl
          obtain ⟨ys, Y, yc, hv3, hsl, hl3, hm3⟩ := (show Wd _ (v 23) W from hP 23 d23)
          obtain ⟨u23, rfl⟩ := fixV hv3
          go_wp2_with fail
          refine (digits_ ys Y yc 1 _ hsl hm3 (by decide)).mono ?_
          rintro e w2 ⟨rfl, rfl⟩
          go_wp2_with fail
          simp only [exK]
          exact Inv6.step (i := 24) (by decide) hB h27 hP (Below.refl _ _) (by first | rfl | (rw [hl3]; rfl))
        · obtain rfl := Option.some.inj (show some _ = some o from ho)
          refine wpOp_list ho rfl ?_
          have d4 : D 4 = true := hdep { on := 4, ground := .data } (by simp) rfl
          have d9 : D 9 = true := hdep { on := 9, ground := .data } (by simp) rfl
          have d14 : D 14 = true := hdep { on := 14, ground := .data } (by simp) rfl
          have d19 : D 19 = true := hdep { on := 19, ground := .data } (by simp) rfl
          have d24 : D 24 = true := hdep { on := 24, ground := .data } (by simp) rfl
          obtain ⟨u4, rfl⟩ := fixV (show v 4 = _ from hP 4 d4)
          obtain ⟨u9, rfl⟩ := fixV (show u4 9 = _ from hP 9 d9)
          obtain ⟨u14, rfl⟩ := fixV (show u9 14 = _ from hP 14 d14)
          obtain ⟨u19, rfl⟩ := fixV (show u14 19 = _ from hP 19 d19)
          obtain ⟨u24, rfl⟩ := fixV (show u19 24 = _ from hP 24 d24)
          go_wp2_with fail
          simp only [exK]
          exact Inv6.step (i := 25) (by decide) hB h27 hP (Below.refl _ _) rfl
        · obtain rfl := Option.some.inj (show some _ = some o from ho)
          refine wpOp_list ho rfl ?_
          go_wp2_with fail
          simp only [exK]
          exact Inv6.step (i := 26) (by decide) hB h27 hP ((Below.refl _ _).alloc (Nat.le_refl _) _) ⟨W.heap.size, rfl, Bxa.new hB.size⟩
        · obtain rfl := Option.some.inj (show some _ = some o from ho)
          refine wpOp_list ho rfl ?_
          have d25 : D 25 = true := hdep { on := 25, ground := .data } (by simp) rfl
          have d26 : D 26 = true := hdep { on := 26, ground := .data } (by simp) rfl
          obtain ⟨g, hg, hx⟩ := (show ∃ g, v 26 = .pointer (some ⟨g, 0, none⟩) ∧ Bxa W wr.heap.size g Al.zero none 0 from hP 26 d26)
          obtain ⟨u25, rfl⟩ := fixV (show v 25 = _ from hP 25 d25)
          obtain ⟨u26, rfl⟩ := fixV (show u25 26 = _ from hg)
          have c0 := hx.cs 0 _ rfl
          have f0 := hx.fr 0
          have c1 := hx.cs 1 _ rfl
          have f1 := hx.fr 1
          have c2 := hx.cs 2 _ rfl
          have f2 := hx.fr 2
          have c3 := hx.cs 3 _ rfl
          have f3 := hx.fr 3
          have c4 := hx.cs 4 _ rfl
          have f4 := hx.fr 4
          have c5 := hx.cs 5 _ rfl
          have f5 := hx.fr 5
          have c6 := hx.cs 6 _ rfl
          have f6 := hx.fr 6
          have c7 := hx.cs 7 _ rfl
          have f7 := hx.fr 7
          have c8 := hx.cs 8 _ rfl
          have f8 := hx.fr 8
          have hall : ∀ j, j < 27 → D j = true := fun j hj => by
            obtain rfl | rfl | rfl | rfl | rfl | rfl | rfl | rfl | rfl | rfl | rfl | rfl | rfl | rfl | rfl | rfl | rfl | rfl | rfl | rfl | rfl | rfl | rfl | rfl | rfl | rfl | rfl := (show j = 0 ∨ j = 1 ∨ j = 2 ∨ j = 3 ∨ j = 4 ∨ j = 5 ∨ j = 6 ∨ j = 7 ∨ j = 8 ∨ j = 9 ∨ j = 10 ∨ j = 11 ∨ j = 12 ∨ j = 13 ∨ j = 14 ∨ j = 15 ∨ j = 16 ∨ j = 17 ∨ j = 18 ∨ j = 19 ∨ j = 20 ∨ j = 21 ∨ j = 22 ∨ j = 23 ∨ j = 24 ∨ j = 25 ∨ j = 26 from by omega)
            all_goals exact hdep { on := _, ground := .phase } (by simp) rfl
          have hlo := hx.lo
          go_wp2_with fail
          simp only [exK]
          refine ⟨fun j => if j = 25 then (al6 s.data.toList).val none 0 else if j = 26 then .pointer (some ⟨g, 0, none⟩) else u26 j, rfl, ?_, fun h => (by simp [updD] at h), fun _ => ⟨fun j hj => by simp only [updD]; rw [if_neg (by omega)]; exact hall j hj, g, rfl, hx.store (al6 s.data.toList) none 0⟩⟩
          iterate 9 refine Below.setCell ?_ (by simp; exact hlo) _
          exact hB
      · rintro D a W hD ⟨v, rfl, hB, _, hF⟩
        obtain ⟨_, g, hg, hx⟩ := hF (hD 27 (by decide))
        obtain ⟨u26, rfl⟩ := fixV hg
        clear hF hD
        show Exit.then _ _ Exit.normal _ _
        clear z0 z1 z3 z5 e0 e1 e3 e5 m0 m1 m3 m5 hg
        obtain ⟨⟨z2, e2, m2⟩, ⟨z4, e4, m4⟩⟩ := H24.out
        have h2' : (2 : Int) < (ws.length : Int) := by omega
        have hlo := hx.lo
        have z2 := (hB.cell (p := ⟨b, off + 2, none⟩) hbw).trans z2
        have HX := Lib.hid hx
        have HBW := Lib.hid hB
        have hbW : b < W.heap.size := Nat.lt_of_lt_of_le hbw hB.size
        have hgW : g < W.heap.size := hx.lt
        clear hx hB
        go_wp2_with fail
        have DC : Below W.heap.size W W := Below.refl _ _
        have HXN := HX
        have c3 := HX.out.cs 3 _ rfl
        have c4 := HX.out.cs 4 _ rfl
        have f3 := HX.out.fr 3
        have f4 := HX.out.fr 4
        have tok1 : True := trivial
        go_region_held3 (fun w' => w'.cell? ⟨b, off + 2, none⟩ = some (.string x2)) (first | exact kN | assumption | (simp [go_sem]; assumption))
          (first
            | (have _t := tok1; go_at_call 87; refine (Words_ x2 _ (Nat.le_trans m2 hs)).mono ?_; rintro e wn ⟨ysA, YA, ycA, hy, rfl, hown, hsz, hbn⟩; have DC := Below.trans DC (Below.trans (show Below W.heap.size _ _ from (by (repeat (first | exact Below.refl _ _ | assumption | refine below_drewN ?_ _ | refine Below.drew ?_ | refine Below.setCell ?_ (by first | omega | (simp; done) | (simp; omega)) _ | refine Below.alloc ?_ (by first | omega | (simp; done) | (simp; omega)) _)))) (hbn.mono (by first | omega | (simp; done) | (simp; omega)))); have sC := DC.size; have kN := (DC.cell (p := ⟨b, off + 2, none⟩) hbW).trans z2; have HXN := Lib.hid (HX.out.below DC); have c3 := HXN.out.cs 3 _ rfl; have c4 := HXN.out.cs 4 _ rfl; have f3 := HXN.out.fr 3; have f4 := HXN.out.fr 4; have HY := Lib.hid (And.intro (Sl.of_own hown) (And.intro hy hsz)); clear hown hy hsz hbn tok1 _t)
            | (go_at_call 87; refine (Words_ x2 _ (Nat.le_trans m2 hs)).mono ?_; rintro e wn ⟨ysB, YB, ycB, hy, rfl, hown, hsz, hbn⟩; have DC := Below.trans DC (Below.trans (show Below W.heap.size _ _ from (by (repeat (first | exact Below.refl _ _ | assumption | refine below_drewN ?_ _ | refine Below.drew ?_ | refine Below.setCell ?_ (by first | omega | (simp; done) | (simp; omega)) _ | refine Below.alloc ?_ (by first | omega | (simp; done) | (simp; omega)) _)))) (hbn.mono (by first | omega | (simp; done) | (simp; omega)))); have sC := DC.size; have kN := (DC.cell (p := ⟨b, off + 2, none⟩) hbW).trans z2; have HXN := Lib.hid (HX.out.below DC); have c3 := HXN.out.cs 3 _ rfl; have c4 := HXN.out.cs 4 _ rfl; have f3 := HXN.out.fr 3; have f4 := HXN.out.fr 4; have HY := Lib.hid (And.intro (Sl.of_own hown) (And.intro hy hsz)); clear hown hy hsz hbn)
            | (go_at_call 88; refine (digitsI_ _ (wordsOf x2.data.toList) HY.out.2.1 _ _ _ _ (Sl.belowS HY.out.1 (by (repeat (first | exact Below.refl _ _ | assumption | refine below_drewN ?_ _ | refine Below.drew ?_ | refine Below.setCell ?_ (by first | omega | (simp; done) | (simp; omega)) _ | refine Below.alloc ?_ (by first | omega | (simp; done) | (simp; omega)) _)))) (fun y hy => Nat.le_trans (HY.out.2.2 y hy) (Nat.le_trans m2 hs)) (by decide) (by decide)).mono ?_; rintro e wn ⟨rfl, rfl⟩))
        all_goals
          have H7 : Hid (Bxa _ wr.heap.size g (al7 s.data.toList) none 0) := HXN.out.set34 (digitsB (wordsOf (lnB s.data.toList 2)) 1) (digitsB (wordsOf (lnB s.data.toList 2)) 2) rfl
          have HB7 : Hid (Below wr.heap.size wr _) := Below.setCell (Below.setCell (HBW.out.trans (DC.mono HBW.out.size)) (p := ⟨g, 3, none⟩) hlo (.int .i64 (digitsB (wordsOf (lnB s.data.toList 2)) 1))) (p := ⟨g, 4, none⟩) hlo (.int .i64 (digitsB (wordsOf (lnB s.data.toList 2)) 2))
          clear kN DC HXN HX HBW c3 c4 f3 f4 HY z2 sC
          obtain ⟨w7, hw7⟩ : ∃ w7, w7 = (wn.setCell ⟨g, 3, none⟩ (.int .i64 (digitsB (wordsOf (lnB s.data.toList 2)) 1))).setCell ⟨g, 4, none⟩ (.int .i64 (digitsB (wordsOf (lnB s.data.toList 2)) 2)) := ⟨_, rfl⟩
          rw [← hw7] at H7 HB7
          rw [← hw7]
          clear hw7
          have h4' : (4 : Int) < (ws.length : Int) := by omega
          have z4' := (HB7.out.cell (p := ⟨b, off + 4, none⟩) hbw).trans z4
          have hb7 : b < w7.heap.size := Nat.lt_of_lt_of_le hbw HB7.out.size
          go_wp2_with fail
          refine (Words_ x4 _ (Nat.le_trans m4 hs)).mono ?_
          rintro e w8 ⟨ys, Y, yc, hy, rfl, hown, hsz8, hb⟩
          have HX8 := Lib.hid (H7.out.below hb)
          have HB8 := Lib.hid (HB7.out.trans (hb.mono HB7.out.size))
          have HYS := Lib.hid (Sl.of_own hown)
          have c7 := HX8.out.cs 7 _ rfl
          have f7 := HX8.out.fr 7
          have hq0 : (lst ys) = wordsOf (lnB s.data.toList 4) := by rw [hy, e4]
          have HQ0 := Lib.hid hq0
          clear hb hown hy hsz8 hq0 z4'
          go_wp2_with fail
          refine (word_ ys Y yc 0 _ HYS.out (by decide)).mono ?_
          rintro e w9 ⟨rfl, rfl⟩
          rw [HQ0.out]
          go_wp2_with fail
          have H9 : Hid (Bxa _ wr.heap.size g (al8 s.data.toList) none 0) := HX8.out.set7 (wordB (wordsOf (lnB s.data.toList 4)) 0 == [119, 105, 116, 104, 100, 114, 97, 119, 110]) rfl
          have HB9 : Hid (Below wr.heap.size wr _) := Below.setCell HB8.out (p := ⟨g, 7, none⟩) hlo (.bool (wordB (wordsOf (lnB s.data.toList 4)) 0 == [119, 105, 116, 104, 100, 114, 97, 119, 110]))
          clear HX8 HB8 HYS c7 f7 HQ0
          obtain ⟨w9, hw9⟩ : ∃ w9, w9 = w8.setCell ⟨g, 7, none⟩ (.bool (wordB (wordsOf (lnB s.data.toList 4)) 0 == [119, 105, 116, 104, 100, 114, 97, 119, 110])) := ⟨_, rfl⟩
          rw [← hw9] at H9 HB9
          rw [← hw9]
          clear hw9
          obtain ⟨wo, rfl⟩ : ∃ wo : World, wo = wr := ⟨_, rfl⟩
          obtain ⟨bs, hbs⟩ : ∃ bs, bs = w9.heap.size := ⟨_, rfl⟩
          have hg9 : g < bs := by rw [hbs]; exact H9.out.lt
          have hob : wo.heap.size ≤ bs := by rw [hbs]; exact HB9.out.size
          have HBS := Lib.hid hbs
          clear hbs hb7
          go_wp2_with fail
          go_loopw [6] (fun i wr => RqRel s.data.toList wo bs g i wr) (fun i _ => 400 - (Go.RowKit.intOf i).toNat)
          case atStart => exact ⟨1, 0, none, 0, by omega, Nat.le_refl _, Lib.hid rfl, rfl, Lib.hid H9.out, Lib.hid (World.ownsRow_nil _ _ _ _), Lib.hid HB9.out, by have := HBS.out; omega⟩
          case round =>
            clear H9 HB9
            obtain ⟨k, n, A, cq, hk, hk1, HN, rfl, HX, HOk, HBk, hbase⟩ := hrel
            have hcl := cellsB_len (wordsOf (lnB s.data.toList 4))
            have hk385 : k ≤ 385 := by omega
            have hnN : n ≤ (cellsB (wordsOf (lnB s.data.toList 4))).length := by have := HN.out; omega
            have hszb := HBk.out.size
            have z4r := (HBk.out.cell (p := ⟨b, off + 4, none⟩) hbw).trans z4
            have hbr : b < wr.heap.size := by omega
            have HCL := Lib.hid hcl
            clear hcl
            go_wp2_with fail
            refine (Words_ x4 _ (Nat.le_trans m4 hs)).mono ?_
            rintro e wA ⟨yq, Yq, ycq, hy, rfl, hown, hszA, hb⟩
            have hyl : yq.length = (wordsOf (lnB s.data.toList 4)).length := by rw [← lst_len, hy, e4]
            have HYL := Lib.hid hyl
            have HXA := Lib.hid (HX.out.below hb)
            have HBA := Lib.hid (HBk.out.trans (hb.mono hszb))
            have HOA := Lib.hid (own_below HOk.out (Nat.le_refl _) hb)
            have hA : wr.heap.size ≤ wA.heap.size := hb.size
            have z4A := (hb.cell (p := ⟨b, off + 4, none⟩) hbr).trans z4r
            clear hb hown hszA hy hyl z4r HX HBk HOk
            by_cases hlt : k < yq.length ∧ k ≤ 384
            · obtain ⟨t1, t2⟩ := hlt
              have t1' : (k : Int) < (yq.length : Int) := by omega
              have t2' : (k : Int) ≤ 384 := by omega
              have c6 : wA.cell? ⟨g, 6, none⟩ = some (.slice A n cq) := by
                have := HXA.out.cs 6 _ rfl
                rw [alC_len hnN] at this
                exact this
              have f6 := HXA.out.fr 6
              have hgA : g < wA.heap.size := by omega
              have hbA : b < wA.heap.size := by omega
              have hn : n + 1 ≤ 385 := by have := HN.out; omega
              go_wp2_with fail
              refine wp_region_inv2 (Inv := Inv12 (fun v => #[.string s, undef, .pointer (some ⟨w.heap.size, 0, none⟩), .int .i64 0, .slice (some ⟨b, off, none⟩) ws.length c, .pointer (some ⟨g, 0, none⟩), .int .i64 k, .string s, .int .i64 s.size, .bool false, undef, .string s, .slice Z zs.length zc, .slice (some ⟨b, off, none⟩) ws.length c, .int .i64 ws.length, .bool false, u16, u17, u18, u26 0, u26 1, u26 2, u26 3, u26 4, u26 5, u26 6, u26 7, u26 8, u26 9, u26 10, u26 11, u26 12, u26 13, u26 14, u26 15, u26 16, u26 17, u26 18, u26 19, u26 20, u26 21, u26 22, u26 23, u26 24, u26 25, .slice (some ⟨b, off, none⟩) ws.length c, .pointer (some ⟨b, off + 2, none⟩), .string x2, .slice YA ysA.length ycA, .int .i64 (digitsB (wordsOf (lnB s.data.toList 2)) 1), .slice (some ⟨b, off, none⟩) ws.length c, .pointer (some ⟨b, off + 2, none⟩), .string x2, .slice YB ysB.length ycB, .int .i64 (digitsB (wordsOf (lnB s.data.toList 2)) 2), .agg #[.int .i64 (digitsB (wordsOf (lnB s.data.toList 2)) 1), .int .i64 (digitsB (wordsOf (lnB s.data.toList 2)) 2)], .pointer (some ⟨g, 3, none⟩), .slice (some ⟨b, off, none⟩) ws.length c, .pointer (some ⟨b, off + 4, none⟩), .string x4, .slice Y ys.length yc, .string ⟨(wordB (wordsOf (lnB s.data.toList 4)) 0).toArray⟩, .bool (wordB (wordsOf (lnB s.data.toList 4)) 0 == [119, 105, 116, 104, 100, 114, 97, 119, 110]), .pointer (some ⟨g, 7, none⟩), .int .i64 k, .slice (some ⟨b, off, none⟩) ws.length c, .pointer (some ⟨b, off + 4, none⟩), .string x4, .slice Yq yq.length ycq, .int .i64 yq.length, .bool true, .bool true, .int .i64 k, .bool true, .bool true, u75, u76, v 0, v 1, v 2, v 3, v 4, v 5, v 6, v 7, v 8, v 9, v 10, undef, undef, undef, undef, undef, undef, undef, undef, undef, undef, undef]) (P12 s.data.toList A b off ws.length c g k n cq x4) (fun gA capA w' => w'.ownsRow bs 3 1 (.slice (some ⟨gA, 0, none⟩) (n + 1) capA) (n + 1) (ints ((cellsB (wordsOf (lnB s.data.toList 4))).take (n + 1))) ∧ Below bs wA w') (fun w' => ∃ gA capA, w'.ownsRow bs 3 1 (.slice (some ⟨gA, 0, none⟩) (n + 1) capA) (n + 1) (ints ((cellsB (wordsOf (lnB s.data.toList 4))).take (n + 1))) ∧ Bxa w' wo.heap.size g (alC s.data.toList (n + 1)) (some ⟨gA, 0, none⟩) capA ∧ Below wo.heap.size wA w' ∧ bs ≤ w'.heap.size) wA g n) (by kernel_rfl) (by kernel_rfl) ⟨pick11 u77 u78 u79 u80 u81 u82 u83 u84 u85 u86 u87, rfl, fun _ => ⟨(Below.refl _ _).drew, fun _ _ h => (by cases h)⟩, fun h => (by cases h), fun h => (by cases h)⟩ ?_ ?_
              · rintro D a W i o ho hD hcl hdep ⟨v, rfl, hA, hB, hC⟩
                have hi12 : i < 12 := (Array.getElem?_eq_some_iff.1 ho).1
                have hall9 : D 9 = true → ∀ j, j < 9 → D j = true := fun h9 => by
                  have d8 := hcl 9 _ rfl h9 { on := 8, ground := .data } (by simp) rfl
                  have d1 := hcl 9 _ rfl h9 { on := 1, ground := .data } (by simp) rfl
                  have d0 := hcl 1 _ rfl d1 { on := 0, ground := .data } (by simp) rfl
                  have d7 := hcl 8 _ rfl d8 { on := 7, ground := .data } (by simp) rfl
                  have d6 := hcl 7 _ rfl d7 { on := 6, ground := .data } (by simp) rfl
                  have d5 := hcl 7 _ rfl d7 { on := 5, ground := .data } (by simp) rfl
                  have d4 := hcl 5 _ rfl d5 { on := 4, ground := .data } (by simp) rfl
                  have d3 := hcl 4 _ rfl d4 { on := 3, ground := .data } (by simp) rfl
                  have d2 := hcl 3 _ rfl d3 { on := 2, ground := .data } (by simp) rfl
                  intro j hj
                  obtain rfl | rfl | rfl | rfl | rfl | rfl | rfl | rfl | rfl := (show j = 0 ∨ j = 1 ∨ j = 2 ∨ j = 3 ∨ j = 4 ∨ j = 5 ∨ j = 6 ∨ j = 7 ∨ j = 8 from by omega) <;> assumption
                have h11 : i ≠ 11 → D 11 = false := fun hne => by
                  cases h : D 11 with
                  | false => rfl
                  | true =>
                    have d9 := hcl 11 _ rfl h { on := 9, ground := .data } (by simp) rfl
                    have d10 := hcl 11 _ rfl h { on := 10, ground := .data } (by simp) rfl
                    have hall := hall9 d9
                    exfalso
                    obtain hlt | rfl | rfl : i < 9 ∨ i = 9 ∨ i = 10 := by omega
                    · rw [hall i hlt] at hD; cases hD
                    · rw [d9] at hD; cases hD
                    · rw [d10] at hD; cases hD
                have h9 : i < 9 → D 9 = false := fun hlt => by
                  cases h : D 9 with
                  | false => rfl
                  | true => rw [hall9 h i hlt] at hD; cases hD
                obtain rfl | rfl | rfl | rfl | rfl | rfl | rfl | rfl | rfl | rfl | rfl | rfl := (show i = 0 ∨ i = 1 ∨ i = 2 ∨ i = 3 ∨ i = 4 ∨ i = 5 ∨ i = 6 ∨ i = 7 ∨ i = 8 ∨ i = 9 ∨ i = 10 ∨ i = 11 from by omega)
                · obtain rfl := Option.some.inj (show some _ = some o from ho)
                  refine wpOp_list ho rfl ?_
                  have h9' := h9 (by decide)
                  have h11' := h11 (by decide)
                  obtain ⟨hW, hP⟩ := hA h9'
                  go_wp2_with fail
                  simp only [exK]
                  exact Inv12.step (i := 0) (by decide) h9' h11' hW hP P12.below (Below.refl _ _) rfl
                · obtain rfl := Option.some.inj (show some _ = some o from ho)
                  refine wpOp_list ho rfl ?_
                  have h9' := h9 (by decide)
                  have h11' := h11 (by decide)
                  obtain ⟨hW, hP⟩ := hA h9'
                  have d0 : D 0 = true := hdep { on := 0, ground := .data } (by simp) rfl
                  obtain ⟨u0', rfl⟩ := fixV (show v 0 = _ from hP 0 (by decide) d0)
                  have c6' := (hW.cell (p := ⟨g, 6, none⟩) hgA).trans c6
                  go_wp2_with fail
                  simp only [exK]
                  exact Inv12.step (i := 1) (by decide) h9' h11' hW hP P12.below (Below.refl _ _) rfl
                · obtain rfl := Option.some.inj (show some _ = some o from ho)
                  refine wpOp_list ho rfl ?_
                  have h9' := h9 (by decide)
                  have h11' := h11 (by decide)
                  obtain ⟨hW, hP⟩ := hA h9'
                  go_wp2_with fail
                  simp only [exK]
                  exact Inv12.step (i := 2) (by decide) h9' h11' hW hP P12.below (Below.refl _ _) rfl
                · obtain rfl := Option.some.inj (show some _ = some o from ho)
                  refine wpOp_list ho rfl ?_
                  have h9' := h9 (by decide)
                  have h11' := h11 (by decide)
                  obtain ⟨hW, hP⟩ := hA h9'
                  have d2 : D 2 = true := hdep { on := 2, ground := .data } (by simp) rfl
                  obtain ⟨u2', rfl⟩ := fixV (show v 2 = _ from hP 2 (by decide) d2)
                  have hlen4 : (4 : Int) < (ws.length : Int) := by omega
                  go_wp2_with fail
                  simp only [exK]
                  exact Inv12.step (i := 3) (by decide) h9' h11' hW hP P12.below (Below.refl _ _) rfl
                · obtain rfl := Option.some.inj (show some _ = some o from ho)
                  refine wpOp_list ho rfl ?_
                  have h9' := h9 (by decide)
                  have h11' := h11 (by decide)
                  obtain ⟨hW, hP⟩ := hA h9'
                  have d3 : D 3 = true := hdep { on := 3, ground := .data } (by simp) rfl
                  obtain ⟨u3', rfl⟩ := fixV (show v 3 = _ from hP 3 (by decide) d3)
                  have z4' := (hW.cell (p := ⟨b, off + 4, none⟩) hbA).trans z4A
                  go_wp2_with fail
                  simp only [exK]
                  exact Inv12.step (i := 4) (by decide) h9' h11' hW hP P12.below (Below.refl _ _) rfl
                · obtain rfl := Option.some.inj (show some _ = some o from ho)
                  refine wpOp_list ho rfl ?_
                  have h9' := h9 (by decide)
                  have h11' := h11 (by decide)
                  obtain ⟨hW, hP⟩ := hA h9'
                  have d4 : D 4 = true := hdep { on := 4, ground := .data } (by simp) rfl
                  obtain ⟨u4', rfl⟩ := fixV (show v 4 = _ from hP 4 (by decide) d4)
                  go_wp2_with fail
                  refine (Words_ x4 _ (Nat.le_trans m4 hs)).mono ?_
                  rintro e w2 ⟨zs2, Z2, zc2, hz2, rfl, hown2, hsz2, hb2⟩
                  go_wp2_with fail
                  simp only [exK]
                  exact Inv12.step (i := 5) (by decide) h9' h11' hW hP P12.below hb2 ⟨zs2, Z2, zc2, rfl, Sl.of_own hown2, by rw [hz2, e4], fun y hy => Nat.le_trans (hsz2 y hy) (Nat.le_trans m4 hs)⟩
                · obtain rfl := Option.some.inj (show some _ = some o from ho)
                  refine wpOp_list ho rfl ?_
                  have h9' := h9 (by decide)
                  have h11' := h11 (by decide)
                  obtain ⟨hW, hP⟩ := hA h9'
                  go_wp2_with fail
                  simp only [exK]
                  exact Inv12.step (i := 6) (by decide) h9' h11' hW hP P12.below (Below.refl _ _) rfl
                · obtain rfl := Option.some.inj (show some _ = some o from ho)
                  refine wpOp_list ho rfl ?_
                  have h9' := h9 (by decide)
                  have h11' := h11 (by decide)
                  obtain ⟨hW, hP⟩ := hA h9'
                  have d5 : D 5 = true := hdep { on := 5, ground := .data } (by simp) rfl
                  have d6 : D 6 = true := hdep { on := 6, ground := .data } (by simp) rfl
                  obtain ⟨zs2, Z2, zc2, hv5, hsl5, hl5, hm5⟩ := (show Wd _ (v 5) W from hP 5 (by decide) d5)
                  obtain ⟨u5', rfl⟩ := fixV hv5
                  obtain ⟨u6', rfl⟩ := fixV (show u5' 6 = _ from hP 6 (by decide) d6)
                  go_wp2_with fail
                  refine (digitsN_ zs2 _ hl5 Z2 zc2 k _ hsl5 hm5 (by omega)).mono ?_
                  rintro e w2 ⟨rfl, rfl⟩
                  go_wp2_with fail
                  simp only [exK]
                  exact Inv12.step (i := 7) (by decide) h9' h11' hW hP P12.below (Below.refl _ _) rfl
                · obtain rfl := Option.some.inj (show some _ = some o from ho)
                  refine wpOp_list ho rfl ?_
                  have h9' := h9 (by decide)
                  have h11' := h11 (by decide)
                  obtain ⟨hW, hP⟩ := hA h9'
                  have d7 : D 7 = true := hdep { on := 7, ground := .data } (by simp) rfl
                  obtain ⟨u7', rfl⟩ := fixV (show v 7 = _ from hP 7 (by decide) d7)
                  go_wp2_with fail
                  simp only [exK]
                  exact Inv12.step (i := 8) (by decide) h9' h11' hW hP P12.below ((Below.refl _ _).alloc (Nat.le_refl _) _) ⟨W.heap.size, rfl, by simp, by simp [go_sem]⟩
                · obtain rfl := Option.some.inj (show some _ = some o from ho)
                  refine wpOp_list ho rfl ?_
                  have h9' := hD
                  have h11' := h11 (by decide)
                  obtain ⟨hW, hP⟩ := hA h9'
                  have d1 : D 1 = true := hdep { on := 1, ground := .data } (by simp) rfl
                  have d8 : D 8 = true := hdep { on := 8, ground := .data } (by simp) rfl
                  obtain ⟨hh, hv8, hlt8, hc8⟩ := (show ∃ h, v 8 = .slice (some ⟨h, 0, none⟩) 1 1 ∧ h < W.heap.size ∧ W.cell? ⟨h, 0, none⟩ = some (.int .i64 (digitsB (wordsOf (lnB s.data.toList 4)) k)) from hP 8 (by decide) d8)
                  have hv1 : v 1 = .slice A n cq := hP 1 (by decide) d1
                  obtain ⟨u8', rfl⟩ := fixV hv8
                  obtain ⟨u1', rfl⟩ := fixV (show u8' 1 = _ from hv1)
                  have hWs := hW.size
                  refine wpList_append_lies _ rfl _ _ 39 rfl bs 3 j0 (.int .i64 0) 1 8 Tryz.underlying39 hj hj0 hj1 hj2 rfl (by decide) (.slice A n cq) n (ints ((cellsB (wordsOf (lnB s.data.toList 4))).take n)) rfl (own_below HOA.out (Nat.le_refl _) hW) _ 1 1 [.int .i64 (digitsB (wordsOf (lnB s.data.toList 4)) k)] rfl rfl (news1 hc8) (fun u hu => by rw [List.mem_singleton.1 hu]; rfl) (by decide) (by unfold maxLen; omega) (by omega) (by omega) _ rfl ?_
                  intro gA capA wB hownA hgA2 hatA hltA
                  go_wp2_with fail
                  simp only [exK]
                  refine ⟨fun j => if j = 9 then .slice (some ⟨gA, 0, none⟩) (n + 1) capA else if j = 8 then .slice (some ⟨hh, 0, none⟩) 1 1 else if j = 1 then .slice A n cq else u1' j, rfl, fun h => (by simp [updD] at h), fun _ _ => ⟨gA, capA, rfl, ⟨?_, (hW.mono (by omega)).grown hgA2 (by omega) (fun _ hg => own_base HOA.out hg)⟩, fun h => ?_⟩, fun h => ?_⟩
                  · have h4 := cellsB_next (ws := wordsOf (lnB s.data.toList 4)) (n := n) (by have := HN.out; have := HYL.out; omega) (by have := HN.out; omega)
                    have h5 : ints (List.take n (cellsB (wordsOf (lnB s.data.toList 4))) ++ [digitsB (wordsOf (lnB s.data.toList 4)) (n + 1)]) = ints (List.take n (cellsB (wordsOf (lnB s.data.toList 4)))) ++ [.int .i64 (digitsB (wordsOf (lnB s.data.toList 4)) (n + 1))] := by simp [ints]
                    rw [h4, h5]
                    have h3 := hownA
                    rw [← HN.out] at h3
                    exact h3
                  · have h10 : D 10 = true := by simpa [updD] using h
                    have := hcl 10 _ rfl h10 { on := 9, ground := .phase } (by simp) rfl
                    rw [hD] at this
                    cases this
                  · have : D 11 = true := by simpa [updD] using h
                    rw [h11'] at this
                    cases this
                · obtain rfl := Option.some.inj (show some _ = some o from ho)
                  refine wpOp_list ho rfl ?_
                  have h11' := h11 (by decide)
                  have d9 : D 9 = true := hdep { on := 9, ground := .phase } (by simp) rfl
                  obtain ⟨gA, capA, hv9, hRB, _⟩ := hB d9 h11'
                  obtain ⟨u9', rfl⟩ := fixV hv9
                  clear hv9
                  go_wp2_with fail
                  simp only [exK]
                  refine ⟨fun j => if j = 10 then .pointer (some ⟨g, 6, none⟩) else if j = 9 then .slice (some ⟨gA, 0, none⟩) (n + 1) capA else u9' j, rfl, fun h => ?_, fun _ _ => ⟨gA, capA, rfl, hRB, fun _ => rfl⟩, fun h => ?_⟩
                  · have : D 9 = false := by simpa [updD] using h
                    rw [d9] at this
                    cases this
                  · have : D 11 = true := by simpa [updD] using h
                    rw [h11'] at this
                    cases this
                · obtain rfl := Option.some.inj (show some _ = some o from ho)
                  refine wpOp_list ho rfl ?_
                  have d9 : D 9 = true := hdep { on := 9, ground := .data } (by simp) rfl
                  have d10 : D 10 = true := hdep { on := 10, ground := .data } (by simp) rfl
                  obtain ⟨gA, capA, hv9, ⟨hRB, hDB⟩, hv10⟩ := hB d9 hD
                  have hv10' := hv10 d10
                  obtain ⟨u9', rfl⟩ := fixV hv9
                  obtain ⟨u10', rfl⟩ := fixV (show u9' 10 = _ from hv10')
                  have c6' := (hDB.cell (p := ⟨g, 6, none⟩) hg9).trans c6
                  have f6' := (hDB.frozen (p := ⟨g, 6, none⟩) hg9).trans f6
                  have hgW : g < W.heap.size := by have := hDB.size; omega
                  go_wp2_with fail
                  simp only [exK]
                  refine ⟨fun j => if j = 9 then .slice (some ⟨gA, 0, none⟩) (n + 1) capA else if j = 10 then .pointer (some ⟨g, 6, none⟩) else u10' j, rfl, fun h => ?_, fun _ h => (by simp [updD] at h), fun _ => ⟨gA, capA, ownsRow_setCell_below hRB (by simpa using hg9) _, ?_, Below.setCell (hDB.mono hob) (p := ⟨g, 6, none⟩) hlo _, ?_⟩⟩
                  · have : D 9 = false := by simpa [updD] using h
                    rw [d9] at this
                    cases this
                  · have e1 : (((cellsB (wordsOf (lnB s.data.toList 4))).take (n + 1))).length = n + 1 := by
                      rw [List.length_take, HCL.out]
                      have := HYL.out
                      have := HN.out
                      omega
                    have HX2 := (HXA.out.belowM hDB hg9).set6 (y := alC s.data.toList (n + 1)) (D := some ⟨gA, 0, none⟩) (d := capA) ((cellsB (wordsOf (lnB s.data.toList 4))).take (n + 1)) rfl
                    rw [e1] at HX2
                    exact HX2
                  · have := hDB.size
                    simp
                    omega
              · rintro D a W hD ⟨v, rfl, _, _, hF⟩
                obtain ⟨gA, capA, hO3, hX3, hB3, hs3⟩ := hF (hD 11 (by decide))
                have HO3 := Lib.hid hO3
                have HX3 := Lib.hid hX3
                have HB3 := Lib.hid hB3
                clear hF hD hO3 hX3 hB3 c6 f6 z4A
                show Exit.inBlock _ (Exit.then _ _) Exit.normal _ _
                go_wp2_with fail
                go_roundw
                case rel =>
                  refine ⟨k + 1, n + 1, some ⟨gA, 0, none⟩, capA, ?_, by omega, Lib.hid (by rw [HN.out]), by go_num, HX3, HO3, Lib.hid (HBA.out.trans HB3.out), hs3⟩
                  have h1 := HCL.out
                  have h2 := HYL.out
                  omega
                case measure => simp [Go.RowKit.intOf]; omega
            · have hall : (cellsB (wordsOf (lnB s.data.toList 4))).length ≤ n := by
                have := HN.out
                have := HYL.out
                have := HCL.out
                omega
              have hX := HXA.out
              have hO2 : wA.ownsRow bs 3 1 (.slice A (alC s.data.toList n).cells.length cq) (alC s.data.toList n).cells.length (ints (alC s.data.toList n).cells) := by rw [alC_len hnN]; exact HOA.out
              rw [alC_all hall] at hX hO2
              have hev : (parseB s.data.toList).ev.size ≤ 65536 := Nat.le_trans (wordB_short s.data.toList 0 1) (Nat.le_trans (Nat.le_of_eq (Array.length_toList)) hs)
              have HPR : Hid (parseR parseB s.data.toList = if okA (parseB s.data.toList) ∧ textL (parseB s.data.toList) = s.data.toList then (parseB s.data.toList, 0) else (Al.zero, 5)) := by
                show _ = _
                unfold parseR
                rw [if_neg]
                rw [Array.length_toList]
                exact Nat.not_lt.2 hs
              have HRB2 : Hid (Bxa wA w.heap.size w.heap.size Al.zero none 0) := HRB.out.belowM (HB.out.trans (HBA.out.mono HB.out.size)) (by have := HzW.out; omega)
              have HBW2 : Hid (Below w.heap.size w wA) := HB0.out.trans ((HB.out.trans (HBA.out.mono HB.out.size)).mono (by have := HzW.out; omega))
              have hwA : w.heap.size < wA.heap.size := HRB2.out.lt
              have hbw2 : w.heap.size < bs := by have := HzW.out; have := HB.out.size; omega
              clear HXA HOA hnN HN HCL HYL
              obtain ⟨x, hx⟩ : ∃ x, x = parseB s.data.toList := ⟨_, rfl⟩
              rw [← hx] at hX hO2 hev HPR
              have HIN : Hid (AIn wA x A cq) := ⟨Nat.le_trans hev (by decide), Sl.of_own hO2⟩
              have HO2 := Lib.hid hO2
              have HX2 := Lib.hid hX
              clear hX hO2 hev hx hall
              obtain ⟨xe, xv, xt, xn, xo, xg, xcs, xw, xb⟩ := x
              have c0 := HX2.out.cs 0 _ rfl
              have c1 := HX2.out.cs 1 _ rfl
              have c2 := HX2.out.cs 2 _ rfl
              have c3 := HX2.out.cs 3 _ rfl
              have c4 := HX2.out.cs 4 _ rfl
              have c5 := HX2.out.cs 5 _ rfl
              have c6 := HX2.out.cs 6 _ rfl
              have c7 := HX2.out.cs 7 _ rfl
              have c8 := HX2.out.cs 8 _ rfl
              have hgA := HX2.out.lt
              have hT : ¬ k < yq.length ∨ (k < yq.length ∧ ¬ k ≤ 384) := by
                by_cases h : k < yq.length
                · exact .inr ⟨h, fun h2 => hlt ⟨h, h2⟩⟩
                · exact .inl h
              clear hlt
              have hT2 : (¬ (k : Int) < (yq.length : Int)) ∨ ((k : Int) < (yq.length : Int) ∧ ¬ (k : Int) ≤ 384) := by omega
              rcases hT2 with t1 | ⟨t1, t2⟩
              all_goals
                cases hk : okA (⟨xe, xv, xt, xn, xo, xg, xcs, xw, xb⟩ : Alr) with
                | false =>
                  have HK := Lib.hid hk
                  clear hk
                  have e1 : parseR parseB s.data.toList = (Al.zero, 5) := HPR.out.trans (if_neg (fun h => by rw [HK.out] at h; exact absurd h.1 (by decide)))
                  have HE := Lib.hid e1
                  clear e1
                  go_wp2_with fail
                  refine (rcheckA_is (⟨xe, xv, xt, xn, xo, xg, xcs, xw, xb⟩ : Alr) A cq _ 101 (errA_f HK.out) HIN.out).mono ?_
                  rintro e wB ⟨rfl, hb⟩
                  have HBB := Lib.hid hb
                  have hwB : w.heap.size < wB.heap.size := Nat.lt_of_lt_of_le hwA hb.size
                  have r0 := (HRB2.out.below HBB.out).cs 0 _ rfl
                  have r1 := (HRB2.out.below HBB.out).cs 1 _ rfl
                  have r2 := (HRB2.out.below HBB.out).cs 2 _ rfl
                  have r3 := (HRB2.out.below HBB.out).cs 3 _ rfl
                  have r4 := (HRB2.out.below HBB.out).cs 4 _ rfl
                  have r5 := (HRB2.out.below HBB.out).cs 5 _ rfl
                  have r6 := (HRB2.out.below HBB.out).cs 6 _ rfl
                  have r7 := (HRB2.out.below HBB.out).cs 7 _ rfl
                  have r8 := (HRB2.out.below HBB.out).cs 8 _ rfl
                  have q0 := (HRB2.out.below HBB.out).fr 0
                  have q1 := (HRB2.out.below HBB.out).fr 1
                  have q2 := (HRB2.out.below HBB.out).fr 2
                  have q3 := (HRB2.out.below HBB.out).fr 3
                  have q4 := (HRB2.out.below HBB.out).fr 4
                  have q5 := (HRB2.out.below HBB.out).fr 5
                  have q6 := (HRB2.out.below HBB.out).fr 6
                  have q7 := (HRB2.out.below HBB.out).fr 7
                  have q8 := (HRB2.out.below HBB.out).fr 8
                  have z0 := (HBB.out.cell (p := ⟨g, 0, none⟩) hgA).trans c0
                  have z1 := (HBB.out.cell (p := ⟨g, 1, none⟩) hgA).trans c1
                  have z2 := (HBB.out.cell (p := ⟨g, 2, none⟩) hgA).trans c2
                  have z3 := (HBB.out.cell (p := ⟨g, 3, none⟩) hgA).trans c3
                  have z4 := (HBB.out.cell (p := ⟨g, 4, none⟩) hgA).trans c4
                  have z5 := (HBB.out.cell (p := ⟨g, 5, none⟩) hgA).trans c5
                  have z6 := (HBB.out.cell (p := ⟨g, 6, none⟩) hgA).trans c6
                  have z7 := (HBB.out.cell (p := ⟨g, 7, none⟩) hgA).trans c7
                  have z8 := (HBB.out.cell (p := ⟨g, 8, none⟩) hgA).trans c8
                  clear hb
                  go_wp2_with fail
                  rw [HE.out]
                  refine finCells (w := wB) (w.heap.size) (Al.zero.lst none 0) (.tuple #[Al.zero.val none 0, .int .i64 5]) rfl ?_ ?_ (show OwnT w.heap.size Al.zero 5 w _ _ from ⟨none, 0, rfl, zero_row _ _, ?_⟩)
                  · intro W hW
                    have r0 := hW 0 (by simp)
                    have r1 := hW 1 (by simp)
                    have r2 := hW 2 (by simp)
                    have r3 := hW 3 (by simp)
                    have r4 := hW 4 (by simp)
                    have r5 := hW 5 (by simp)
                    have r6 := hW 6 (by simp)
                    have r7 := hW 7 (by simp)
                    have r8 := hW 8 (by simp)
                    clear hW
                    simp only [List.getElem_cons_zero, List.getElem_cons_succ] at r0 r1 r2 r3 r4 r5 r6 r7 r8
                    simp [results, Tryz.results39, go_sem, r0, r1, r2, r3, r4, r5, r6, r7, r8]
                  · refine lt9 ?_
                    simp [go_sem, r0, r1, r2, r3, r4, r5, r6, r7, r8]
                  · exact below_setCells (Nat.le_refl _) _ _ _ _ (HBW2.out.trans (HBB.out.mono (by omega)))
                | true =>
                  have HK := Lib.hid hk
                  clear hk
                  have hts : ∀ b : Bool, decide (textL (⟨xe, xv, xt, xn, xo, xg, xcs, xw, xb⟩ : Alr) = s.data.toList) = b → (textL (⟨xe, xv, xt, xn, xo, xg, xcs, xw, xb⟩ : Alr) == s.toList) = b := fun b hb => by
                    rw [← hb, Lib.toList_data, Bool.eq_iff_iff, beq_iff_eq, decide_eq_true_iff]
                  have HTS := Lib.hid hts
                  clear hts
                  by_cases ht : textL (⟨xe, xv, xt, xn, xo, xg, xcs, xw, xb⟩ : Alr) = s.data.toList
                  · have e1 : parseR parseB s.data.toList = ((⟨xe, xv, xt, xn, xo, xg, xcs, xw, xb⟩ : Alr), 0) := HPR.out.trans (if_pos ⟨HK.out, ht⟩)
                    have HE := Lib.hid e1
                    have tq := HTS.out true (decide_eq_true ht)
                    clear e1 ht
                    go_wp2_with fail
                    refine (rcheckA_is (⟨xe, xv, xt, xn, xo, xg, xcs, xw, xb⟩ : Alr) A cq _ 0 (errA_t HK.out) HIN.out).mono ?_
                    rintro e wB ⟨rfl, hb⟩
                    have HBB := Lib.hid hb
                    have hwB : w.heap.size < wB.heap.size := Nat.lt_of_lt_of_le hwA hb.size
                    have r0 := (HRB2.out.below HBB.out).cs 0 _ rfl
                    have r1 := (HRB2.out.below HBB.out).cs 1 _ rfl
                    have r2 := (HRB2.out.below HBB.out).cs 2 _ rfl
                    have r3 := (HRB2.out.below HBB.out).cs 3 _ rfl
                    have r4 := (HRB2.out.below HBB.out).cs 4 _ rfl
                    have r5 := (HRB2.out.below HBB.out).cs 5 _ rfl
                    have r6 := (HRB2.out.below HBB.out).cs 6 _ rfl
                    have r7 := (HRB2.out.below HBB.out).cs 7 _ rfl
                    have r8 := (HRB2.out.below HBB.out).cs 8 _ rfl
                    have q0 := (HRB2.out.below HBB.out).fr 0
                    have q1 := (HRB2.out.below HBB.out).fr 1
                    have q2 := (HRB2.out.below HBB.out).fr 2
                    have q3 := (HRB2.out.below HBB.out).fr 3
                    have q4 := (HRB2.out.below HBB.out).fr 4
                    have q5 := (HRB2.out.below HBB.out).fr 5
                    have q6 := (HRB2.out.below HBB.out).fr 6
                    have q7 := (HRB2.out.below HBB.out).fr 7
                    have q8 := (HRB2.out.below HBB.out).fr 8
                    have z0 := (HBB.out.cell (p := ⟨g, 0, none⟩) hgA).trans c0
                    have z1 := (HBB.out.cell (p := ⟨g, 1, none⟩) hgA).trans c1
                    have z2 := (HBB.out.cell (p := ⟨g, 2, none⟩) hgA).trans c2
                    have z3 := (HBB.out.cell (p := ⟨g, 3, none⟩) hgA).trans c3
                    have z4 := (HBB.out.cell (p := ⟨g, 4, none⟩) hgA).trans c4
                    have z5 := (HBB.out.cell (p := ⟨g, 5, none⟩) hgA).trans c5
                    have z6 := (HBB.out.cell (p := ⟨g, 6, none⟩) hgA).trans c6
                    have z7 := (HBB.out.cell (p := ⟨g, 7, none⟩) hgA).trans c7
                    have z8 := (HBB.out.cell (p := ⟨g, 8, none⟩) hgA).trans c8
                    clear hb
                    go_wp2_with fail
                    refine (rtext_ (⟨xe, xv, xt, xn, xo, xg, xcs, xw, xb⟩ : Alr) A cq wB.heap.size _ (okA_good HK.out) ((HIN.out.below HBB.out).sl) (Nat.le_refl _)).mono ?_
                    rintro e wC ⟨rfl, hb2⟩
                    have HBC := Lib.hid (HBB.out.trans (hb2.mono HBB.out.size))
                    have hwC : w.heap.size < wC.heap.size := Nat.lt_of_lt_of_le hwB hb2.size
                    have r0 := (HRB2.out.below HBC.out).cs 0 _ rfl
                    have r1 := (HRB2.out.below HBC.out).cs 1 _ rfl
                    have r2 := (HRB2.out.below HBC.out).cs 2 _ rfl
                    have r3 := (HRB2.out.below HBC.out).cs 3 _ rfl
                    have r4 := (HRB2.out.below HBC.out).cs 4 _ rfl
                    have r5 := (HRB2.out.below HBC.out).cs 5 _ rfl
                    have r6 := (HRB2.out.below HBC.out).cs 6 _ rfl
                    have r7 := (HRB2.out.below HBC.out).cs 7 _ rfl
                    have r8 := (HRB2.out.below HBC.out).cs 8 _ rfl
                    have q0 := (HRB2.out.below HBC.out).fr 0
                    have q1 := (HRB2.out.below HBC.out).fr 1
                    have q2 := (HRB2.out.below HBC.out).fr 2
                    have q3 := (HRB2.out.below HBC.out).fr 3
                    have q4 := (HRB2.out.below HBC.out).fr 4
                    have q5 := (HRB2.out.below HBC.out).fr 5
                    have q6 := (HRB2.out.below HBC.out).fr 6
                    have q7 := (HRB2.out.below HBC.out).fr 7
                    have q8 := (HRB2.out.below HBC.out).fr 8
                    have z0 := (HBC.out.cell (p := ⟨g, 0, none⟩) hgA).trans c0
                    have z1 := (HBC.out.cell (p := ⟨g, 1, none⟩) hgA).trans c1
                    have z2 := (HBC.out.cell (p := ⟨g, 2, none⟩) hgA).trans c2
                    have z3 := (HBC.out.cell (p := ⟨g, 3, none⟩) hgA).trans c3
                    have z4 := (HBC.out.cell (p := ⟨g, 4, none⟩) hgA).trans c4
                    have z5 := (HBC.out.cell (p := ⟨g, 5, none⟩) hgA).trans c5
                    have z6 := (HBC.out.cell (p := ⟨g, 6, none⟩) hgA).trans c6
                    have z7 := (HBC.out.cell (p := ⟨g, 7, none⟩) hgA).trans c7
                    have z8 := (HBC.out.cell (p := ⟨g, 8, none⟩) hgA).trans c8
                    clear hb2
                    go_wp2_with fail
                    rw [HE.out]
                    refine finCells (w := wC) (w.heap.size) ((⟨xe, xv, xt, xn, xo, xg, xcs, xw, xb⟩ : Alr).lst A cq) (.tuple #[(⟨xe, xv, xt, xn, xo, xg, xcs, xw, xb⟩ : Alr).val A cq, .int .i64 0]) rfl ?_ ?_ (show OwnT w.heap.size (⟨xe, xv, xt, xn, xo, xg, xcs, xw, xb⟩ : Alr) 0 w _ _ from ⟨A, cq, rfl, ?_, ?_⟩)
                    · intro W hW
                      have r0 := hW 0 (by simp)
                      have r1 := hW 1 (by simp)
                      have r2 := hW 2 (by simp)
                      have r3 := hW 3 (by simp)
                      have r4 := hW 4 (by simp)
                      have r5 := hW 5 (by simp)
                      have r6 := hW 6 (by simp)
                      have r7 := hW 7 (by simp)
                      have r8 := hW 8 (by simp)
                      clear hW
                      simp only [List.getElem_cons_zero, List.getElem_cons_succ] at r0 r1 r2 r3 r4 r5 r6 r7 r8
                      simp [results, Tryz.results39, go_sem, r0, r1, r2, r3, r4, r5, r6, r7, r8]
                    · refine lt9 ?_
                      simp [go_sem, r0, r1, r2, r3, r4, r5, r6, r7, r8]
                    · exact own_setCells (Nat.lt_succ_self _) _ _ _ (own_more (own_below HO2.out (Nat.le_refl _) HBC.out) (by omega)) |> fun h => own_more h (by omega)
                    · exact below_setCells (Nat.le_refl _) _ _ _ _ (HBW2.out.trans (HBC.out.mono (by omega)))
                  · have e1 : parseR parseB s.data.toList = (Al.zero, 5) := HPR.out.trans (if_neg (fun h => ht h.2))
                    have HE := Lib.hid e1
                    have tq := HTS.out false (decide_eq_false ht)
                    clear e1 ht
                    go_wp2_with fail
                    refine (rcheckA_is (⟨xe, xv, xt, xn, xo, xg, xcs, xw, xb⟩ : Alr) A cq _ 0 (errA_t HK.out) HIN.out).mono ?_
                    rintro e wB ⟨rfl, hb⟩
                    have HBB := Lib.hid hb
                    have hwB : w.heap.size < wB.heap.size := Nat.lt_of_lt_of_le hwA hb.size
                    have r0 := (HRB2.out.below HBB.out).cs 0 _ rfl
                    have r1 := (HRB2.out.below HBB.out).cs 1 _ rfl
                    have r2 := (HRB2.out.below HBB.out).cs 2 _ rfl
                    have r3 := (HRB2.out.below HBB.out).cs 3 _ rfl
                    have r4 := (HRB2.out.below HBB.out).cs 4 _ rfl
                    have r5 := (HRB2.out.below HBB.out).cs 5 _ rfl
                    have r6 := (HRB2.out.below HBB.out).cs 6 _ rfl
                    have r7 := (HRB2.out.below HBB.out).cs 7 _ rfl
                    have r8 := (HRB2.out.below HBB.out).cs 8 _ rfl
                    have q0 := (HRB2.out.below HBB.out).fr 0
                    have q1 := (HRB2.out.below HBB.out).fr 1
                    have q2 := (HRB2.out.below HBB.out).fr 2
                    have q3 := (HRB2.out.below HBB.out).fr 3
                    have q4 := (HRB2.out.below HBB.out).fr 4
                    have q5 := (HRB2.out.below HBB.out).fr 5
                    have q6 := (HRB2.out.below HBB.out).fr 6
                    have q7 := (HRB2.out.below HBB.out).fr 7
                    have q8 := (HRB2.out.below HBB.out).fr 8
                    have z0 := (HBB.out.cell (p := ⟨g, 0, none⟩) hgA).trans c0
                    have z1 := (HBB.out.cell (p := ⟨g, 1, none⟩) hgA).trans c1
                    have z2 := (HBB.out.cell (p := ⟨g, 2, none⟩) hgA).trans c2
                    have z3 := (HBB.out.cell (p := ⟨g, 3, none⟩) hgA).trans c3
                    have z4 := (HBB.out.cell (p := ⟨g, 4, none⟩) hgA).trans c4
                    have z5 := (HBB.out.cell (p := ⟨g, 5, none⟩) hgA).trans c5
                    have z6 := (HBB.out.cell (p := ⟨g, 6, none⟩) hgA).trans c6
                    have z7 := (HBB.out.cell (p := ⟨g, 7, none⟩) hgA).trans c7
                    have z8 := (HBB.out.cell (p := ⟨g, 8, none⟩) hgA).trans c8
                    clear hb
                    go_wp2_with fail
                    refine (rtext_ (⟨xe, xv, xt, xn, xo, xg, xcs, xw, xb⟩ : Alr) A cq wB.heap.size _ (okA_good HK.out) ((HIN.out.below HBB.out).sl) (Nat.le_refl _)).mono ?_
                    rintro e wC ⟨rfl, hb2⟩
                    have HBC := Lib.hid (HBB.out.trans (hb2.mono HBB.out.size))
                    have hwC : w.heap.size < wC.heap.size := Nat.lt_of_lt_of_le hwB hb2.size
                    have r0 := (HRB2.out.below HBC.out).cs 0 _ rfl
                    have r1 := (HRB2.out.below HBC.out).cs 1 _ rfl
                    have r2 := (HRB2.out.below HBC.out).cs 2 _ rfl
                    have r3 := (HRB2.out.below HBC.out).cs 3 _ rfl
                    have r4 := (HRB2.out.below HBC.out).cs 4 _ rfl
                    have r5 := (HRB2.out.below HBC.out).cs 5 _ rfl
                    have r6 := (HRB2.out.below HBC.out).cs 6 _ rfl
                    have r7 := (HRB2.out.below HBC.out).cs 7 _ rfl
                    have r8 := (HRB2.out.below HBC.out).cs 8 _ rfl
                    have q0 := (HRB2.out.below HBC.out).fr 0
                    have q1 := (HRB2.out.below HBC.out).fr 1
                    have q2 := (HRB2.out.below HBC.out).fr 2
                    have q3 := (HRB2.out.below HBC.out).fr 3
                    have q4 := (HRB2.out.below HBC.out).fr 4
                    have q5 := (HRB2.out.below HBC.out).fr 5
                    have q6 := (HRB2.out.below HBC.out).fr 6
                    have q7 := (HRB2.out.below HBC.out).fr 7
                    have q8 := (HRB2.out.below HBC.out).fr 8
                    have z0 := (HBC.out.cell (p := ⟨g, 0, none⟩) hgA).trans c0
                    have z1 := (HBC.out.cell (p := ⟨g, 1, none⟩) hgA).trans c1
                    have z2 := (HBC.out.cell (p := ⟨g, 2, none⟩) hgA).trans c2
                    have z3 := (HBC.out.cell (p := ⟨g, 3, none⟩) hgA).trans c3
                    have z4 := (HBC.out.cell (p := ⟨g, 4, none⟩) hgA).trans c4
                    have z5 := (HBC.out.cell (p := ⟨g, 5, none⟩) hgA).trans c5
                    have z6 := (HBC.out.cell (p := ⟨g, 6, none⟩) hgA).trans c6
                    have z7 := (HBC.out.cell (p := ⟨g, 7, none⟩) hgA).trans c7
                    have z8 := (HBC.out.cell (p := ⟨g, 8, none⟩) hgA).trans c8
                    clear hb2
                    go_wp2_with fail
                    rw [HE.out]
                    refine finCells (w := wC) (w.heap.size) (Al.zero.lst none 0) (.tuple #[Al.zero.val none 0, .int .i64 5]) rfl ?_ ?_ (show OwnT w.heap.size Al.zero 5 w _ _ from ⟨none, 0, rfl, zero_row _ _, ?_⟩)
                    · intro W hW
                      have r0 := hW 0 (by simp)
                      have r1 := hW 1 (by simp)
                      have r2 := hW 2 (by simp)
                      have r3 := hW 3 (by simp)
                      have r4 := hW 4 (by simp)
                      have r5 := hW 5 (by simp)
                      have r6 := hW 6 (by simp)
                      have r7 := hW 7 (by simp)
                      have r8 := hW 8 (by simp)
                      clear hW
                      simp only [List.getElem_cons_zero, List.getElem_cons_succ] at r0 r1 r2 r3 r4 r5 r6 r7 r8
                      simp [results, Tryz.results39, go_sem, r0, r1, r2, r3, r4, r5, r6, r7, r8]
                    · refine lt9 ?_
                      simp [go_sem, r0, r1, r2, r3, r4, r5, r6, r7, r8]
                    · exact below_setCells (Nat.le_refl _) _ _ _ _ (HBW2.out.trans (HBC.out.mono (by omega)))
end Go.Proofs.YtohfofecbdfkgaaGreatDoor
