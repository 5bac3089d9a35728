/-
  The walks of has, versioned, many and counting, of the specification.
-/
import Derived.Test.YtmpbhngjkbidcaaGreatDoorW22
import Derived.Test.YtmpbhngjkbidcaaGreatDoorW12
import Derived.Test.YtmpbhngjkbidcaaGreatDoorW08
namespace Go.Proofs.YtmpbhngjkbidcaaGreatDoor
open Go.RowKit Al

theorem any_take_at {α : Type} {p : α → Bool} {l : List α} {k : Nat} (hk : k < l.length) (h : p l[k] = true) : l.any p = true := by
  rw [List.any_eq_true]
  exact ⟨l[k], List.getElem_mem hk, h⟩
theorem any_take_no {α : Type} {p : α → Bool} {l : List α} {k : Nat} (hk : k < l.length) (h0 : (l.take k).any p = false) (h : p l[k] = false) : (l.take (k + 1)).any p = false := by
  rw [List.take_succ_eq_append_getElem hk, List.any_append, h0]
  simp [h]
theorem any_end {α : Type} {p : α → Bool} {l : List α} (h : (l.take l.length).any p = false) : l.any p = false := by
  rwa [List.take_of_length_le (Nat.le_refl _)] at h
/-- A round of a search: nothing was found so far. -/
def AnRel {α : Type} (p : α → Bool) (l : List α) (w : World) (i : Value) (wr : World) : Prop := ∃ k : Nat, k ≤ l.length ∧ i = .int .i64 k ∧ Hid ((l.take k).any p = false) ∧ Below w.heap.size w wr

/-- The error of a roll and notices. -/
def manyE (ks : List (Int × Int)) (q : Int) (len : Nat) : Int := if rollOk ks q then (if 64 < len then 3 else 0) else 104
end Go.Proofs.YtmpbhngjkbidcaaGreatDoor

/-
  The walks of counting and of of, of the specification.
-/
namespace Go.Proofs.YtmpbhngjkbidcaaGreatDoor
open Go.RowKit Al

/-- The first k that are so. -/
def flL (p : It → Bool) (L : List It) (k : Nat) : List It := (L.take k).filter p
theorem flL_yes {p : It → Bool} {L : List It} {k : Nat} (hk : k < L.length) (h : p L[k] = true) : flL p L (k + 1) = flL p L k ++ [L[k]] := by
  unfold flL
  rw [List.take_succ_eq_append_getElem hk, List.filter_append, List.filter_cons_of_pos (by exact h), List.filter_nil]
theorem flL_no {p : It → Bool} {L : List It} {k : Nat} (hk : k < L.length) (h : p L[k] = false) : flL p L (k + 1) = flL p L k := by
  unfold flL
  rw [List.take_succ_eq_append_getElem hk, List.filter_append, List.filter_cons_of_neg (by rw [h]; simp), List.filter_nil, List.append_nil]
theorem flL_len (p : It → Bool) (L : List It) (k : Nat) : (flL p L k).length ≤ L.length := Nat.le_trans (List.length_filter_le _ _) (by rw [List.length_take]; omega)
theorem flL_end (p : It → Bool) (L : List It) : flL p L L.length = L.filter p := by unfold flL; rw [List.take_length]
def FlRel (w : World) (B : Nat) (L : List It) (p : It → Bool) (o i : Value) (wr : World) : Prop :=
  ∃ (k : Nat) (A : Option Addr) (c : Nat), k ≤ L.length ∧ o = .slice A (flL p L k).length c ∧ i = .int .i64 k ∧ wr.ownsRow B 72 10 (.slice A (flL p L k).length c) (flL p L k).length (itCells (flL p L k)) ∧ Below B w wr
theorem fl_step {w w4 w5 : World} {B : Nat} {L : List It} {p : It → Bool} {k : Nat} {A : Option Addr} {c g cap : Nat} (hlt : k < L.length) (hx : flL p L (k + 1) = flL p L k ++ [L[k]])
    (hown : w5.ownsRow B 72 10 (.slice (some ⟨g, 0, none⟩) ((flL p L k).length + 1) cap) ((flL p L k).length + 1) (itCells (flL p L k) ++ L[k].lst)) (h4 : Below B w w4) (hB : B ≤ w4.heap.size) (hg : w4.grownBy w5 (Value.slice A (flL p L k).length c).ownBlock)
    (hA : ∀ g, (Value.slice A (flL p L k).length c).ownBlock = some g → B ≤ g) :
    FlRel w B L p (.slice (some ⟨g, 0, none⟩) ((flL p L k).length + 1) cap) (.int .i64 ((k + 1 : Nat) : Int)) w5 := by
  refine ⟨k + 1, some ⟨g, 0, none⟩, cap, by omega, by rw [hx, List.length_append]; rfl, rfl, ?_, h4.grown hg hB hA⟩
  rw [hx, List.length_append, itCells_snoc]
  exact hown

end Go.Proofs.YtmpbhngjkbidcaaGreatDoor

/-
  The walks of FindWord and events, of the specification.
-/
namespace Go.Proofs.YtmpbhngjkbidcaaGreatDoor
open Go.RowKit Al

def strs (l : List ByteArray) : List Value := l.map Value.string
theorem strs_len (l : List ByteArray) : (strs l).length = l.length := by simp [strs]
theorem strs_one (l : List ByteArray) : ∀ u ∈ strs l, u.oneCell' = true := by
  intro u hu
  obtain ⟨s, _, rfl⟩ := List.mem_map.1 hu
  rfl
theorem Sl.str_at {w : World} {B n c : Nat} {A : Option Addr} {l : List ByteArray} (h : Sl w B 1 A n c (strs l)) {k : Nat} (hl : k < l.length) : ∃ b off, A = some ⟨b, off, none⟩ ∧ b < B ∧ w.cell? ⟨b, off + k, none⟩ = some (.string l[k]) := by
  have hn : n = l.length := by have := h.len; rw [strs_len] at this; omega
  obtain ⟨b, off, e, hb, hc⟩ := h.at_ (by omega)
  exact ⟨b, off, e, hb, hc k _ (by simp [strs, hl])⟩
/-- Is the word among these? -/
def wordIn (s : ByteArray) (l : List ByteArray) : Bool := l.any fun x => x.toList == s.toList
/-- A word goes before the first one that is greater. -/
def insW (n : ByteArray) : List ByteArray → List ByteArray
  | [] => [n]
  | x :: r => if Op.bytesLess n.toList x.toList then n :: x :: r else x :: insW n r
/-- The same, word by word. -/
def stW (n : ByteArray) (st : List ByteArray × Bool) (x : ByteArray) : List ByteArray × Bool :=
  ((if !st.2 && Op.bytesLess n.toList x.toList then st.1 ++ [n] else st.1) ++ [x], st.2 || Op.bytesLess n.toList x.toList)
def runW (n : ByteArray) (out : List ByteArray) (k : Nat) : List ByteArray × Bool := (out.take k).foldl (stW n) ([], false)
theorem runW_next {n : ByteArray} {out : List ByteArray} {k : Nat} (h : k < out.length) : runW n out (k + 1) = stW n (runW n out k) out[k] := by
  unfold runW
  rw [List.take_succ_eq_append_getElem h, List.foldl_append]
  rfl
theorem fold_t (n : ByteArray) : ∀ (out acc : List ByteArray), out.foldl (stW n) (acc, true) = (acc ++ out, true)
  | [], acc => by simp
  | x :: r, acc => by
    rw [List.foldl_cons]
    have : stW n (acc, true) x = (acc ++ [x], true) := by simp [stW]
    rw [this, fold_t n r]
    simp
theorem fold_f (n : ByteArray) : ∀ (out acc : List ByteArray), (let r := out.foldl (stW n) (acc, false); if r.2 then r.1 else r.1 ++ [n]) = acc ++ insW n out
  | [], acc => by simp [insW]
  | x :: r, acc => by
    rw [List.foldl_cons]
    by_cases h : Op.bytesLess n.toList x.toList = true
    · have : stW n (acc, false) x = (acc ++ [n] ++ [x], true) := by simp [stW, h]
      rw [this, fold_t]
      simp [insW, h]
    · have : stW n (acc, false) x = (acc ++ [x], false) := by simp [stW, h]
      rw [this]
      have := fold_f n r (acc ++ [x])
      rw [this]
      simp [insW, h]
theorem runW_end (n : ByteArray) (out : List ByteArray) : (if (runW n out out.length).2 then (runW n out out.length).1 else (runW n out out.length).1 ++ [n]) = insW n out := by
  have := fold_f n out []
  unfold runW
  rw [List.take_length]
  simpa using this
theorem stW_len (n : ByteArray) (st : List ByteArray × Bool) (x : ByteArray) : (stW n st x).1.length ≤ st.1.length + 2 := by
  unfold stW
  split <;> simp
theorem runW_len (n : ByteArray) (out : List ByteArray) : ∀ k, k ≤ out.length → (runW n out k).1.length ≤ 2 * k
  | 0, _ => by simp [runW]
  | k + 1, h => by
    rw [runW_next (by omega)]
    have := stW_len n (runW n out k) out[k]
    have := runW_len n out k (by omega)
    omega
/-- The names of the events, in order. -/
def evW (L : List It) : List ByteArray := L.foldl (fun out x => if wordIn x.n.a.ev out then out else insW x.n.a.ev out) []
theorem insW_len (n : ByteArray) : ∀ out : List ByteArray, (insW n out).length = out.length + 1
  | [] => rfl
  | x :: r => by
    unfold insW
    split
    · rfl
    · rw [List.length_cons, insW_len n r, List.length_cons]
end Go.Proofs.YtmpbhngjkbidcaaGreatDoor

/-
  The walk of events, of the specification: the names of the events, in order.
-/
namespace Go.Proofs.YtmpbhngjkbidcaaGreatDoor
open Go.RowKit Al

theorem infoStr : (Tryz.prog.info? 9).map (fun i => (i.zero, i.size, i.bytes)) = some (some (.string ⟨#[]⟩), 1, 16) := by kernel_rfl
/-- Words in memory of the call's own. -/
def OwnW (l : List ByteArray) (w : World) (e : Ending) (w' : World) : Prop := ∃ A c, e = .returned (.slice A l.length c) ∧ w'.ownsRow w.heap.size 9 1 (.slice A l.length c) l.length (strs l) ∧ Below w.heap.size w w'
def EvRel (w : World) (L : List It) (o i : Value) (wr : World) : Prop :=
  ∃ (k : Nat) (out : List ByteArray) (A : Option Addr) (c : Nat), k ≤ L.length ∧ Hid (out = evW (L.take k)) ∧ out.length ≤ k ∧ o = .slice A out.length c ∧ i = .int .i64 k ∧ wr.ownsRow w.heap.size 9 1 (.slice A out.length c) out.length (strs out) ∧ Below w.heap.size w wr
def InRel (n : ByteArray) (out : List ByteArray) (w2 : World) (x p i : Value) (wr : World) : Prop :=
  ∃ (j : Nat) (nx : List ByteArray) (pb : Bool) (A : Option Addr) (c : Nat), j ≤ out.length ∧ Hid (runW n out j = (nx, pb)) ∧ x = .slice A nx.length c ∧ p = .bool pb ∧ i = .int .i64 j ∧ wr.ownsRow w2.heap.size 9 1 (.slice A nx.length c) nx.length (strs nx) ∧ Below w2.heap.size w2 wr
theorem strs_snoc (l : List ByteArray) (s : ByteArray) : strs (l ++ [s]) = strs l ++ [.string s] := by simp [strs]
theorem in_step1 {n : ByteArray} {out nx : List ByteArray} {w2 wr w5 : World} {j : Nat} {pb : Bool} {A : Option Addr} {c g cap : Nat} {o : Obj} (hj : j < out.length) (hst : runW n out j = (nx, pb)) (hq : (!pb && Op.bytesLess n.toList out[j].toList) = false) (hB : Below w2.heap.size w2 wr)
    (hown : w5.ownsRow w2.heap.size 9 1 (.slice (some ⟨g, 0, none⟩) (nx.length + 1) cap) (nx.length + 1) (strs nx ++ [.string out[j]])) (hg : (wr.alloc o).grownBy w5 (Value.slice A nx.length c).ownBlock) (hA : ∀ g, (Value.slice A nx.length c).ownBlock = some g → w2.heap.size ≤ g) :
    InRel n out w2 (.slice (some ⟨g, 0, none⟩) (nx.length + 1) cap) (.bool pb) (.int .i64 ((j + 1 : Nat) : Int)) w5 := by
  have h4 : Below w2.heap.size w2 (wr.alloc o) := hB.alloc hB.size o
  refine ⟨j + 1, nx ++ [out[j]], pb, some ⟨g, 0, none⟩, cap, by omega, ?_, by rw [List.length_append]; rfl, rfl, rfl, ?_, h4.grown hg h4.size hA⟩
  · show _ = _
    rw [runW_next hj, hst]
    unfold stW
    simp only [hq, Bool.false_eq_true, if_false]
    cases pb with
    | true => rfl
    | false =>
      have : Op.bytesLess n.toList out[j].toList = false := by simpa using hq
      rw [this]
      rfl
  · rw [List.length_append, strs_snoc]
    exact hown
theorem in_step2 {n : ByteArray} {out nx : List ByteArray} {w2 wr w5 w6 : World} {j : Nat} {A : Option Addr} {c g cap g' cap' : Nat} {o o' : Obj} (hj : j < out.length) (hst : runW n out j = (nx, false)) (hq : Op.bytesLess n.toList out[j].toList = true) (hB : Below w2.heap.size w2 wr)
    (hown : w5.ownsRow w2.heap.size 9 1 (.slice (some ⟨g, 0, none⟩) (nx.length + 1) cap) (nx.length + 1) (strs nx ++ [.string n])) (hg : (wr.alloc o).grownBy w5 (Value.slice A nx.length c).ownBlock) (hA : ∀ g, (Value.slice A nx.length c).ownBlock = some g → w2.heap.size ≤ g)
    (hown' : w6.ownsRow w2.heap.size 9 1 (.slice (some ⟨g', 0, none⟩) (nx.length + 1 + 1) cap') (nx.length + 1 + 1) (strs nx ++ [.string n] ++ [.string out[j]])) (hg' : (w5.alloc o').grownBy w6 (Value.slice (some ⟨g, 0, none⟩) (nx.length + 1) cap).ownBlock) (_h : g < w5.heap.size) :
    InRel n out w2 (.slice (some ⟨g', 0, none⟩) (nx.length + 1 + 1) cap') (.bool true) (.int .i64 ((j + 1 : Nat) : Int)) w6 := by
  have h4 : Below w2.heap.size w2 (wr.alloc o) := hB.alloc hB.size o
  have h5 : Below w2.heap.size w2 w5 := h4.grown hg h4.size hA
  have h6 : Below w2.heap.size w2 (w5.alloc o') := h5.alloc h5.size o'
  refine ⟨j + 1, nx ++ [n] ++ [out[j]], true, some ⟨g', 0, none⟩, cap', by omega, ?_, by simp, rfl, rfl, ?_, h6.grown hg' h6.size (fun g hg => own_base hown hg)⟩
  · show _ = _
    rw [runW_next hj, hst]
    simp [stW, hq]
  · rw [strs_snoc, strs_snoc]
    simpa using hown'
theorem below_app {w2 wr w5 : World} {o : Obj} {row : Option Nat} {B : Nat} (hB : Below B w2 wr) (hs : B ≤ wr.heap.size) (hg : (wr.alloc o).grownBy w5 row) (hA : ∀ g, row = some g → B ≤ g) : Below B w2 w5 :=
  (hB.alloc hs o).grown hg (by simp; omega) hA
theorem evW_next {L : List It} {k : Nat} (hk : k < L.length) : evW (L.take (k + 1)) = if wordIn L[k].n.a.ev (evW (L.take k)) then evW (L.take k) else insW L[k].n.a.ev (evW (L.take k)) := by
  unfold evW
  rw [List.take_succ_eq_append_getElem hk, List.foldl_append]
  rfl

end Go.Proofs.YtmpbhngjkbidcaaGreatDoor

/-
  Plain: two valid alerts with the same text are the same.
-/
namespace Go.Proofs.YtmpbhngjkbidcaaGreatDoor
namespace Al

theorem cut_at {s : UInt8} : ∀ {u u' r r' : List UInt8}, s ∉ u → s ∉ u' → u ++ s :: r = u' ++ s :: r' → u = u' ∧ r = r'
  | [], [], r, r', _, _, h => ⟨rfl, by simpa using h⟩
  | [], y :: v, r, r', _, h2, h => by
    have : s = y := by simpa using (List.cons.inj h).1
    exact absurd (by rw [this]; simp) h2
  | x :: v, [], r, r', h1, _, h => by
    have : x = s := by simpa using (List.cons.inj h).1
    exact absurd (by rw [← this]; simp) h1
  | x :: v, y :: v', r, r', h1, h2, h => by
    obtain ⟨e1, e2⟩ := List.cons.inj h
    obtain ⟨e3, e4⟩ := cut_at (u := v) (u' := v') (fun hm => h1 (List.mem_cons_of_mem _ hm)) (fun hm => h2 (List.mem_cons_of_mem _ hm)) e2
    exact ⟨by rw [e1, e3], e4⟩
/-- Nothing, or what begins with the separator. -/
def Led (s : UInt8) (r : List UInt8) : Prop := r = [] ∨ ∃ t, r = s :: t
theorem cut_led {s : UInt8} : ∀ {u u' r r' : List UInt8}, s ∉ u → s ∉ u' → Led s r → Led s r' → u ++ r = u' ++ r' → u = u' ∧ r = r'
  | [], [], r, r', _, _, _, _, h => ⟨rfl, by simpa using h⟩
  | [], y :: v, r, r', _, h2, h3, _, h => by
    rcases h3 with rfl | ⟨t, rfl⟩
    · cases h
    · have : s = y := by simpa using (List.cons.inj h).1
      exact absurd (by rw [this]; simp) h2
  | x :: v, [], r, r', h1, _, _, h4, h => by
    rcases h4 with rfl | ⟨t, rfl⟩
    · cases h
    · have : x = s := by simpa using (List.cons.inj h).1
      exact absurd (by rw [← this]; simp) h1
  | x :: v, y :: v', r, r', h1, h2, h3, h4, h => by
    obtain ⟨e1, e2⟩ := List.cons.inj h
    obtain ⟨e3, e4⟩ := cut_led (u := v) (u' := v') (fun hm => h1 (List.mem_cons_of_mem _ hm)) (fun hm => h2 (List.mem_cons_of_mem _ hm)) h3 h4 e2
    exact ⟨by rw [e1, e3], e4⟩
/-- What digits say. -/
def valL (l : List UInt8) : Nat := l.foldl (fun n b => n * 10 + (b.toNat - 48)) 0
theorem valL_snoc (l : List UInt8) (b : UInt8) : valL (l ++ [b]) = valL l * 10 + (b.toNat - 48) := by simp [valL]
theorem digit_nat {d : Nat} (h : d < 10) : (UInt8.ofNat (48 + d)).toNat = 48 + d := by
  rw [UInt8.toNat_ofNat']
  omega
theorem dec_val (u : Nat) : valL (Lib.decDigits u) = u ∧ ∀ b ∈ Lib.decDigits u, 48 ≤ b.toNat ∧ b.toNat ≤ 57 := by
  induction u using Nat.strongRecOn with
  | ind u ih =>
    rw [Lib.decDigits]
    by_cases h : u < 10
    · rw [dif_pos h]
      refine ⟨?_, fun b hb => ?_⟩
      · show 0 * 10 + ((UInt8.ofNat (48 + u)).toNat - 48) = u
        rw [digit_nat h]
        omega
      · rw [List.mem_singleton.1 hb, digit_nat h]
        omega
    · rw [dif_neg h]
      obtain ⟨h1, h2⟩ := ih (u / 10) (by omega)
      refine ⟨?_, fun b hb => ?_⟩
      · rw [valL_snoc, h1, digit_nat (Nat.mod_lt _ (by omega))]
        omega
      · rcases List.mem_append.1 hb with hb | hb
        · exact h2 b hb
        · rw [List.mem_singleton.1 hb, digit_nat (Nat.mod_lt _ (by omega))]
          omega
theorem itoa_dec {n : Int} (h : 0 ≤ n) : Lib.itoa n = Lib.decDigits n.toNat := by unfold Lib.itoa; rw [if_neg (by omega)]
theorem itoa_inj {n m : Int} (h : 0 ≤ n) (h' : 0 ≤ m) (e : Lib.itoa n = Lib.itoa m) : n = m := by
  rw [itoa_dec h, itoa_dec h'] at e
  have := congrArg valL e
  rw [(dec_val _).1, (dec_val _).1] at this
  omega
theorem itoa_no {n : Int} (h : 0 ≤ n) {s : UInt8} (hs : s.toNat < 48) : s ∉ Lib.itoa n := by
  rw [itoa_dec h]
  intro hm
  have := ((dec_val _).2 s hm).1
  omega
theorem small_no {b : UInt8} (h : small b = true) : 33 ≤ b.toNat := by have := inB_true.1 h; omega
theorem nameB_no {b : UInt8} (h : nameB b = true) : 33 ≤ b.toNat := by
  unfold nameB at h
  simp only [Bool.or_eq_true] at h
  rcases h with (h | h) | h
  · exact small_no h
  · have := inB_true.1 h; omega
  · have : (b.toNat : Int) = 95 := by simpa using h
    omega
theorem name_no : ∀ {f : Bool} {l : List UInt8}, nameFrom f l = true → ∀ b ∈ l, 33 ≤ b.toNat
  | _, [], _, _, hb => by cases hb
  | f, c :: r, h, b, hb => by
    rw [nameFrom] at h
    simp only [Bool.and_eq_true, Bool.or_eq_true] at h
    rcases List.mem_cons.1 hb with rfl | hb
    · rcases h.1 with h1 | h1
      · exact small_no h1
      · exact nameB_no h1.2
    · exact name_no h.2 b hb
theorem flat_led (l : List Int) : Led 32 (l.flatMap fun n => 32 :: Lib.itoa n) := by
  cases l with
  | nil => exact .inl rfl
  | cons n r => exact .inr ⟨_, rfl⟩
theorem flat_inj : ∀ {l l' : List Int}, Fine l → Fine l' → (l.flatMap fun n => 32 :: Lib.itoa n) = (l'.flatMap fun n => 32 :: Lib.itoa n) → l = l'
  | [], [], _, _, _ => rfl
  | [], _ :: _, _, _, h => by simp at h
  | _ :: _, [], _, _, h => by simp at h
  | n :: r, m :: r', h1, h2, h => by
    rw [List.flatMap_cons, List.flatMap_cons] at h
    obtain ⟨_, h3⟩ := List.cons.inj h
    have hn := h1 n (by simp)
    have hm := h2 m (by simp)
    obtain ⟨e1, e2⟩ := cut_led (itoa_no hn.1 (by decide)) (itoa_no hm.1 (by decide)) (flat_led r) (flat_led r') h3
    rw [itoa_inj hn.1 hm.1 e1, flat_inj (fun z hz => h1 z (by simp [hz])) (fun z hz => h2 z (by simp [hz])) e2]
theorem flat_no {s : UInt8} (hs : s.toNat < 32) : ∀ {l : List Int}, Fine l → s ∉ (l.flatMap fun n => 32 :: Lib.itoa n)
  | [], _ => by simp
  | n :: r, h => by
    rw [List.flatMap_cons]
    intro hm
    rcases List.mem_append.1 hm with hm | hm
    · rcases List.mem_cons.1 hm with rfl | hm
      · exact absurd hs (by decide)
      · exact itoa_no (h n (by simp)).1 (by omega) hm
    · exact flat_no hs (fun z hz => h z (by simp [hz])) hm
theorem where_no {a : Alr} (h : AlGood a) : (10 : UInt8) ∉ whereL a := by
  unfold whereL
  split
  · decide
  · unfold rowL
    intro hm
    rcases List.mem_append.1 hm with hm | hm
    · revert hm; decide
    · exact flat_no (by decide) h.cells hm
theorem where_inj {a b : Alr} (h : AlGood a) (h' : AlGood b) (e : whereL a = whereL b) : a.wd = b.wd ∧ a.cells = b.cells := by
  unfold whereL at e
  cases ha : a.wd with
  | true =>
    cases hb : b.wd with
    | true => exact ⟨rfl, by rw [h.wd ha, h'.wd hb]⟩
    | false => rw [ha, hb] at e; simp [rowL] at e
  | false =>
    cases hb : b.wd with
    | true => rw [ha, hb] at e; simp [rowL] at e
    | false =>
      rw [ha, hb] at e
      simp only [Bool.false_eq_true, if_false] at e
      unfold rowL at e
      exact ⟨rfl, flat_inj h.cells h'.cells (List.append_cancel_left e)⟩
theorem text_inj {a b : Alr} (ha : okA a = true) (hb : okA b = true) (e : textL a = textL b) : a = b := by
  have ga := okA_good ha
  have gb := okA_good hb
  have na : ∀ c ∈ a.ev.data.toList, 33 ≤ c.toNat := by
    have := (okA_parts ha).2.1
    rw [isName_size, Bool.and_eq_true] at this
    exact name_no this.2
  have nb : ∀ c ∈ b.ev.data.toList, 33 ≤ c.toNat := by
    have := (okA_parts hb).2.1
    rw [isName_size, Bool.and_eq_true] at this
    exact name_no this.2
  rw [textL_pre, textL_pre] at e
  unfold preL at e
  simp only [List.append_assoc, List.cons_append, List.nil_append] at e
  simp only [List.cons.injEq, true_and] at e
  obtain ⟨e1, e⟩ := cut_at (fun hm => absurd (na _ hm) (by decide)) (fun hm => absurd (nb _ hm) (by decide)) e
  obtain ⟨e2, e⟩ := cut_at (itoa_no ga.ver.1 (by decide)) (itoa_no gb.ver.1 (by decide)) e
  simp only [List.cons.injEq, true_and] at e
  obtain ⟨e3, e⟩ := cut_at (itoa_no ga.tm.1 (by decide)) (itoa_no gb.tm.1 (by decide)) e
  simp only [List.cons.injEq, true_and] at e
  obtain ⟨e4, e⟩ := cut_at (itoa_no ga.n.1 (by decide)) (itoa_no gb.n.1 (by decide)) e
  obtain ⟨e5, e⟩ := cut_at (itoa_no ga.of.1 (by decide)) (itoa_no gb.of.1 (by decide)) e
  simp only [List.cons.injEq, true_and] at e
  obtain ⟨e6, e⟩ := cut_at (itoa_no ga.grid.1 (by decide)) (itoa_no gb.grid.1 (by decide)) e
  obtain ⟨e7, e⟩ := cut_at (where_no ga) (where_no gb) e
  simp only [List.cons.injEq, true_and] at e
  obtain ⟨e8, _⟩ := cut_at (itoa_no ga.before.1 (by decide)) (itoa_no gb.before.1 (by decide)) e
  obtain ⟨w1, w2⟩ := where_inj ga gb e7
  obtain ⟨ev, ver, tm, n, of, grid, cells, wd, before⟩ := a
  obtain ⟨ev', ver', tm', n', of', grid', cells', wd', before'⟩ := b
  have h1 : ev = ev' := ByteArray.ext (Array.toList_inj.1 e1)
  have h2 : ver = ver' := itoa_inj ga.ver.1 gb.ver.1 e2
  have h3 : tm = tm' := itoa_inj ga.tm.1 gb.tm.1 e3
  have h4 : n = n' := itoa_inj ga.n.1 gb.n.1 e4
  have h5 : of = of' := itoa_inj ga.of.1 gb.of.1 e5
  have h6 : grid = grid' := itoa_inj ga.grid.1 gb.grid.1 e6
  have h7 : before = before' := itoa_inj ga.before.1 gb.before.1 e8
  have h8 : wd = wd' := w1
  have h9 : cells = cells' := w2
  rw [h1, h2, h3, h4, h5, h6, h7, h8, h9]
end Al
end Go.Proofs.YtmpbhngjkbidcaaGreatDoor

/-
  The walks of slices.Contains and slices.Index, for ints.
-/
namespace Go.Proofs.YtmpbhngjkbidcaaGreatDoor
open Go.RowKit Al

set_option maxRecDepth 100000 in
set_option maxHeartbeats 2000000 in
theorem slIndex_ (l : List Int) (A : Option Addr) (c : Nat) (s : Int) (w : World) (h : Sl w w.heap.size 1 A l.length c (ints l)) :
    Calls Tryz.prog 135 #[.slice A l.length c, .int .i64 s] w fun e w' => ∃ v : Int, e = .returned (.int .i64 v) ∧ decide (0 ≤ v) = l.any (fun x => x == s) ∧ Below w.heap.size w w' := by
  have HL := Lib.hid h
  have hlen : l.length ≤ maxLen := Nat.le_trans h.cap h.max
  unfold maxLen at hlen
  clear h
  go_enter Tryz.func135, Tryz.ntmps135
  go_wp2_with fail
  go_loopw [8] (fun i wr => AnRel (fun x : Int => x == s) l w i wr) (fun i _ => l.length - (intOf i).toNat)
  case atStart => exact ⟨0, Nat.zero_le _, rfl, (by show _ = _; simp), Below.refl _ _⟩
  case round =>
    obtain ⟨k, hk, rfl, HA, hB⟩ := hrel
    have hsz := hB.size
    have HB := Lib.hid hB
    clear hB
    by_cases hlt : k < l.length
    · obtain ⟨nb, off, rfl, hnb, y0⟩ := (HL.out.below HB.out).int_at hlt hlt
      have i0 : (0 : Int) ≤ (k : Int) := by omega
      have i1 : (k : Int) < (l.length : Int) := by omega
      cases hv : (l[k] == s) with
      | true =>
        have HX := Lib.hid (any_take_at (p := fun x : Int => x == s) hlt hv)
        have hv2 : (s == l[k]) = true := by rw [← hv, Bool.beq_comm]
        go_wp2_with fail
        go_ret
        exact ⟨k, rfl, by rw [HX.out]; exact decide_eq_true (by omega), HB.out⟩
      | false =>
        have HX := Lib.hid (any_take_no (p := fun x : Int => x == s) hlt HA.out hv)
        have hv2 : (s == l[k]) = false := by rw [← hv, Bool.beq_comm]
        go_wp2_with fail
        go_roundw
        case rel => exact ⟨k + 1, by omega, by go_num, HX, HB.out⟩
        case measure => simp [intOf]; omega
    · obtain rfl : k = l.length := by omega
      have HX := Lib.hid (any_end HA.out)
      go_wp2_with fail
      go_ret
      exact ⟨-1, rfl, by rw [HX.out]; rfl, HB.out⟩
set_option maxRecDepth 100000 in
theorem slContains_ (l : List Int) (A : Option Addr) (c : Nat) (s : Int) (w : World) (h : Sl w w.heap.size 1 A l.length c (ints l)) :
    Calls Tryz.prog 108 #[.slice A l.length c, .int .i64 s] w fun e w' => e = .returned (.bool (l.any fun x => x == s)) ∧ Below w.heap.size w w' := by
  have HL := Lib.hid h
  clear h
  go_enter Tryz.func108, Tryz.ntmps108
  go_wp2_with fail
  refine (slIndex_ l A c s w HL.out).mono ?_
  rintro e w1 ⟨v, rfl, hv, hb⟩
  have HB := Lib.hid hb
  have HV := Lib.hid hv
  clear hb hv
  go_wp2_with fail
  go_ret
  exact ⟨by rw [← HV.out]; rfl, HB.out⟩
theorem slContains_is (l : List Int) (A : Option Addr) (c : Nat) (s : Int) (b : Bool) (w : World) (hb : decide (s ∈ l) = b) (h : Sl w w.heap.size 1 A l.length c (ints l)) :
    Calls Tryz.prog 108 #[.slice A l.length c, .int .i64 s] w fun e w' => e = .returned (.bool b) ∧ Below w.heap.size w w' := by
  have e : (l.any fun x => x == s) = b := by
    rw [← hb, Bool.eq_iff_iff, List.any_eq_true, decide_eq_true_eq]
    constructor
    · rintro ⟨x, hx, e⟩
      have : x = s := by simpa using e
      exact this ▸ hx
    · intro h
      exact ⟨s, h, by simp⟩
  exact e ▸ slContains_ l A c s w h
end Go.Proofs.YtmpbhngjkbidcaaGreatDoor
