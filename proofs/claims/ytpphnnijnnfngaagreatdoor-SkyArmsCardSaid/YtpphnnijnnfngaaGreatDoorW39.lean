/-
  The text of a rational number in lowest terms is read as this number.
-/
import Derived.Test.YtpphnnijnnfngaaGreatDoorW38
import Derived.Test.YtpphnnijnnfngaaGreatDoorW09
namespace Go.Proofs.YtpphnnijnnfngaaGreatDoor
open Go.RowKit Al Nat9

theorem dig_toNat {d : Nat} (h : d < 10) : (UInt8.ofNat (48 + d)).toNat = 48 + d := by
  rw [UInt8.toNat_ofNat']
  omega
theorem dig_isD {d : Nat} (h : d < 10) : isD (UInt8.ofNat (48 + d)) = true := isD_iff.2 (by rw [dig_toNat h]; omega)
theorem dec_isD (u : Nat) : (Lib.decDigits u).all isD = true ∧ decV (Lib.decDigits u) = u := by
  induction u using Nat.strongRecOn with
  | _ u ih =>
    by_cases h : u < 10
    · rw [Lib.decDigits_one h]
      refine ⟨by rw [List.all_cons, dig_isD h]; rfl, ?_⟩
      show 10 * 0 + ((UInt8.ofNat (48 + u)).toNat - 48) = u
      rw [dig_toNat h]
      omega
    · obtain ⟨i1, i2⟩ := ih (u / 10) (by omega)
      have h10 : u % 10 < 10 := Nat.mod_lt _ (by omega)
      rw [dec_step h]
      refine ⟨by rw [List.all_append, i1, List.all_cons, dig_isD h10]; rfl, ?_⟩
      rw [decV_snoc, i2, dig_toNat h10]
      omega
theorem ntF_dec (u : Nat) : ntF (Lib.decDigits u) = some u := by
  obtain ⟨h1, h2⟩ := dec_isD u
  have h3 : (Lib.decDigits u).isEmpty = false := by
    cases h : Lib.decDigits u with
    | nil => have := dec_nonempty u; rw [h] at this; simp at this
    | cons a b => rfl
  unfold ntF
  rw [h1, h3, h2]
  rfl
theorem ne_of_isD {l : List UInt8} (h : l.all isD = true) {c : UInt8} (hc : isD c = false) : c ∉ l := fun hm => by
  have := List.all_eq_true.1 h c hm
  rw [hc] at this
  cases this
theorem index_past (c : UInt8) : ∀ (l m : List UInt8), c ∉ l → Lib.index (l ++ c :: m) [c] = l.length
  | [], m, _ => by
    show (if [c].isPrefixOf (c :: m) then (0 : Int) else _) = 0
    rw [if_pos (by simp [List.isPrefixOf])]
  | b :: l, m, h => by
    have hb : c ≠ b := fun e => h (by rw [e]; exact List.mem_cons_self ..)
    have hl : c ∉ l := fun e => h (List.mem_cons_of_mem _ e)
    have ih := index_past c l m hl
    show (if [c].isPrefixOf (b :: (l ++ c :: m)) then (0 : Int) else if Lib.index (l ++ c :: m) [c] == -1 then -1 else Lib.index (l ++ c :: m) [c] + 1) = _
    rw [if_neg (by simp [List.isPrefixOf, hb]), ih, if_neg (by simp), List.length_cons]
    omega
theorem index_not (c : UInt8) : ∀ l : List UInt8, c ∉ l → Lib.index l [c] = -1
  | [], _ => rfl
  | b :: l, h => by
    have hb : c ≠ b := fun e => h (by rw [e]; exact List.mem_cons_self ..)
    have hl : c ∉ l := fun e => h (List.mem_cons_of_mem _ e)
    have ih := index_not c l hl
    show (if [c].isPrefixOf (b :: l) then (0 : Int) else if Lib.index l [c] == -1 then -1 else Lib.index l [c] + 1) = _
    rw [if_neg (by simp [List.isPrefixOf, hb]), ih]
    rfl
theorem cut_at (l m : List UInt8) (h : (47 : UInt8) ∉ l) : Lib.cut (l ++ 47 :: m) [47] = (l, m, true) := by
  unfold Lib.cut
  rw [index_past 47 l m h, if_pos (by omega)]
  simp
theorem cut_not (l : List UInt8) (h : (47 : UInt8) ∉ l) : Lib.cut l [47] = (l, [], false) := by
  unfold Lib.cut
  rw [index_not 47 l h, if_neg (by omega)]
/-- In lowest terms, with a sign only if it is not 0. -/
structure Can (r : Rat9) : Prop where
  d0 : 0 < r.d
  cop : Nat.gcd r.n r.d = 1
  sg : r.m = true → 0 < r.n
theorem red_can {r : Rat9} (h : Can r) : Nat9.red r.m r.n r.d = r := by
  obtain ⟨m, n, d⟩ := r
  have hc : Nat.gcd n d = 1 := h.cop
  show Nat9.red m n d = _
  unfold Nat9.red
  by_cases h0 : n = 0
  · subst h0
    rw [Nat.gcd_zero_left] at hc
    subst hc
    rw [if_pos rfl]
    cases m with
    | false => rfl
    | true => exact absurd (h.sg rfl) (by simp)
  · rw [if_neg h0, hc, Nat.div_one, Nat.div_one]
theorem can_red (m : Bool) {n d : Nat} (hd : 0 < d) : Can (Nat9.red m n d) := by
  unfold Nat9.red
  by_cases h0 : n = 0
  · rw [if_pos h0]
    exact ⟨by decide, by decide, fun h => by cases h⟩
  · rw [if_neg h0]
    have hg : 0 < Nat.gcd n d := Nat.gcd_pos_of_pos_right _ hd
    refine ⟨Nat.div_pos (Nat.le_of_dvd hd (Nat.gcd_dvd_right _ _)) hg, ?_, fun _ => Nat.div_pos (Nat.le_of_dvd (by omega) (Nat.gcd_dvd_left _ _)) hg⟩
    show Nat.gcd (n / Nat.gcd n d) (d / Nat.gcd n d) = 1
    rw [Nat.gcd_div (Nat.gcd_dvd_left _ _) (Nat.gcd_dvd_right _ _), Nat.div_self hg]
theorem Can.neg {r : Rat9} (h : Can r) : Can r.neg := ⟨h.d0, h.cop, fun e => by
  have : (!r.m && decide (0 < r.n)) = true := e
  rw [Bool.and_eq_true] at this
  exact of_decide_eq_true this.2⟩
theorem Can.add {a b : Rat9} (ha : 0 < a.d) (hb : 0 < b.d) : Can (a.add b) := can_red _ (Nat.mul_pos ha hb)
theorem parF_tx {r : Rat9} (h : Can r) : parF (txR r) = some r := by
  obtain ⟨m, n, d⟩ := r
  have hn := dec_isD n
  have h47 : (47 : UInt8) ∉ Lib.decDigits n := ne_of_isD hn.1 (by decide)
  have hne := dec_nonempty n
  have hpre : Lib.hasPrefix (txR ⟨m, n, d⟩) [45] = m ∧ Lib.trimPrefix (txR ⟨m, n, d⟩) [45] = Lib.decDigits n ++ (if d = 1 then [] else 47 :: Lib.decDigits d) := by
    cases m with
    | true => exact ⟨by simp [Lib.hasPrefix, txR, List.isPrefixOf], by simp [Lib.trimPrefix, Lib.hasPrefix, txR, List.isPrefixOf]⟩
    | false =>
      have e : txR ⟨false, n, d⟩ = Lib.decDigits n ++ (if d = 1 then [] else 47 :: Lib.decDigits d) := by simp [txR]
      have e2 : Lib.hasPrefix (txR ⟨false, n, d⟩) [45] = false := by
        rw [e]
        cases hl : Lib.decDigits n with
        | nil => rw [hl] at hne; simp at hne
        | cons b t =>
          have hb : isD b = true := List.all_eq_true.1 hn.1 b (by rw [hl]; exact List.mem_cons_self ..)
          have : (45 : UInt8) ≠ b := fun e => by rw [← e] at hb; exact absurd hb (by decide)
          simp [Lib.hasPrefix, List.isPrefixOf, this]
      refine ⟨e2, ?_⟩
      unfold Lib.trimPrefix
      rw [e2, e]
      rfl
  unfold parF
  rw [hpre.1, hpre.2]
  by_cases hd : d = 1
  · subst hd
    rw [if_pos rfl, List.append_nil, cut_not _ h47]
    show parX m (Lib.decDigits n) [] false = _
    unfold parX
    rw [ntF_dec]
    show some (Nat9.red m n 1) = _
    rw [red_can h]
  · rw [if_neg hd, cut_at _ _ h47]
    show parX m (Lib.decDigits n) (Lib.decDigits d) true = _
    unfold parX
    rw [ntF_dec, ntF_dec]
    have hd0 : d ≠ 0 := by have : 0 < d := h.d0; omega
    show parY m n (some d) = _
    rw [parY, if_neg hd0, red_can h]
theorem tx_no105 (r : Rat9) : (105 : UInt8) ∉ txR r := by
  obtain ⟨m, n, d⟩ := r
  have h1 : (105 : UInt8) ∉ Lib.decDigits n := ne_of_isD (dec_isD n).1 (by decide)
  have h2 : (105 : UInt8) ∉ Lib.decDigits d := ne_of_isD (dec_isD d).1 (by decide)
  unfold txR
  intro h
  rw [List.mem_append, List.mem_append] at h
  rcases h with (h | h) | h
  · cases m <;> simp at h
  · exact h1 h
  · by_cases hd : d = 1
    · rw [if_pos hd] at h; cases h
    · rw [if_neg hd] at h
      rcases List.mem_cons.1 h with h | h
      · cases h
      · exact h2 h
/-- What get reads as a real number. -/
structure GetG (s : ByteArray) (r : Rat9) : Prop where
  sz : s.size ≤ 8008
  ni : Lib.hasSuffix s.data.toList [105] = false
  tx : s = bT (txR r)
  ln : RLn 9000 r
  nb : bigB r = false
  pr : parF s.data.toList = some r
theorem dg_of_dec {u k : Nat} (h : (Lib.decDigits u).length ≤ k) : (dg u).length ≤ k := by
  rcases Nat.eq_zero_or_pos u with h0 | h0
  · subst h0; rw [dg_zero]; exact Nat.zero_le _
  · obtain ⟨hh, e⟩ := dec_size h0
    have := dec_nonempty ((dg u)[(dg u).length - 1])
    omega
theorem getG_of {r : Rat9} (h : Can r) (hb : bigB r = false) : GetG (bT (txR r)) r := by
  have h1 := hb
  unfold bigB at h1
  rw [Bool.or_eq_false_iff, decide_eq_false_iff_not, decide_eq_false_iff_not] at h1
  have hlen : (txR r).length ≤ 8008 := by
    unfold txR
    rw [List.length_append, List.length_append]
    have a1 : (if r.m then ([45] : List UInt8) else []).length ≤ 1 := by split <;> simp
    have a2 : (if r.d = 1 then ([] : List UInt8) else 47 :: Lib.decDigits r.d).length ≤ 2001 := by
      split
      · simp
      · rw [List.length_cons]; omega
    omega
  refine ⟨by rw [bT_size]; exact hlen, ?_, rfl, ⟨Nat.le_trans (dg_of_dec (k := 2000) (by omega)) (by omega), Nat.le_trans (dg_of_dec (k := 2000) (by omega)) (by omega), h.d0⟩, hb, parF_tx h⟩
  show Lib.hasSuffix (txR r) [105] = false
  rcases hs : Lib.hasSuffix (txR r) [105] with _ | _
  · rfl
  · unfold Lib.hasSuffix at hs
    obtain ⟨t, ht⟩ := List.isSuffixOf_iff_suffix.1 hs
    exact absurd (show (105 : UInt8) ∈ txR r by rw [← ht]; simp) (tx_no105 r)
end Go.Proofs.YtpphnnijnnfngaaGreatDoor

/-
  get of real numbers of any size.
-/
namespace Go.Proofs.YtpphnnijnnfngaaGreatDoor
open Go.RowKit Al Nat9

set_option maxRecDepth 100000 in
set_option maxHeartbeats 8000000 in
theorem getR_ (s : ByteArray) (r : Rat9) (w : World) (hM : RdN w) (hg : GetG s r) : Calls Tryz.prog 47 #[.string s] w (VabT r w) := by
  have HM := Lib.hid hM
  have hs := hg.sz
  have HP : Hid (∀ W, RdN W → Calls Tryz.prog 79 #[.string s] W (RabT r W)) := fun W hW => by
    have h := parsedG_ s W hW.m (by omega)
    rw [hg.pr] at h
    exact h
  have HZ : Hid (∀ W, RdN W → Calls Tryz.prog 79 #[.string ⟨#[48]⟩] W (ZabT W)) := fun W hW => parsed_zero W hW.m
  have HC : Hid (∀ W, ∃ t, Calls Tryz.prog 77 #[.string s, .string ⟨#[105]⟩] W fun e w' => e = .returned (.tuple #[.string t, .bool false]) ∧ W = w') := fun W => ⟨_, (Tryz.strings_CutSuffix s ⟨#[105]⟩ W (by omega)).mono fun e w' ⟨he, hw⟩ => ⟨by rw [he]; show Ending.returned (.tuple #[_, .bool (Lib.hasSuffix s.data.toList [105])]) = _; rw [hg.ni], hw.symm⟩⟩
  have hsh := hg.ln
  have hnb := hg.nb
  have HT : Hid (∀ W (v : VR), v.r = r → v.ok W → Tab W → Calls Tryz.prog 80 #[v.val] W fun e w' => e = .returned (.string s) ∧ Below W.heap.size W w') := fun W v hv hW hTb => by
    have h := vtextG_ v 9000 (by rw [hv]; exact hsh) (by omega) W hW hTb
    rw [hv, ← hg.tx] at h
    exact h
  have HB1 : Hid (∀ W A c D d, RIn W r A c D d → Tab W → Calls Tryz.prog 81 #[r.val A c D d] W fun e w' => e = .returned (.bool false) ∧ Below W.heap.size W w') := fun W A c D d h hTb => by
    have h2 := rbigG_ r 9000 hsh (by omega) A D c d W h hTb
    rw [hnb] at h2
    exact h2
  have HB2 : Hid (∀ W B b E f, NaIn W B b 0 → NaIn W E f 1 → Tab W → Calls Tryz.prog 81 #[.agg #[.bool false, .slice B 0 b, .slice E 1 f]] W fun e w' => e = .returned (.bool false) ∧ Below W.heap.size W w') := fun W B b E f h1 h2 hTb => by
    have h := rbigG_ VR.zer 1 ⟨by show (dg 0).length ≤ 1; rw [len0]; omega, by show (dg 1).length ≤ 1; rw [len1]; omega, by decide⟩ (by omega) B E b f W ⟨h1, h2⟩ hTb
    rw [show bigB VR.zer = false by show (decide _ || decide _) = false; rw [show VR.zer.n = 0 from rfl, show VR.zer.d = 1 from rfl, Lib.decDigits_one (by omega), Lib.decDigits_one (by omega)]; rfl] at h
    simp only [Rat9.val, len0, len1] at h
    exact h
  have e1 : (s.toList != s.toList) = false := by simp
  clear hM hg hsh hnb
  obtain ⟨rm, rn, rd⟩ := r
  simp only [Rat9.val] at HB1
  go_enter Tryz.func47, Tryz.ntmps47
  go_wp2_with fail
  obtain ⟨t, HCt⟩ := HC.out _
  refine HCt.mono ?_
  clear HCt
  rintro e w1 ⟨rfl, rfl⟩
  go_wp2_with fail
  refine (HP.out _ (HM.out.below (show Below w.heap.size w _ from (by repeat (first | exact Below.refl _ _ | assumption | refine below_drewN ?_ _ | refine Below.drew ?_ | refine Below.setCell ?_ (by first | omega | (simp; done) | (simp; omega)) _ | refine Below.alloc ?_ (by first | omega | (simp; done) | (simp; omega)) _))) (Nat.le_refl _))).mono ?_
  rintro e w1 ⟨A, c, D, d, rfl, hn, hd, hb⟩
  have HN1 := Lib.hid hn
  have HD1 := Lib.hid hd
  have Z1 := Lib.hid ((zv_new w).keep hb)
  have HW1 : Hid (Below w.heap.size w w1) := (show Below w.heap.size w _ from (by repeat (first | exact Below.refl _ _ | assumption | refine below_drewN ?_ _ | refine Below.drew ?_ | refine Below.setCell ?_ (by first | omega | (simp; done) | (simp; omega)) _ | refine Below.alloc ?_ (by first | omega | (simp; done) | (simp; omega)) _))).trans (hb.mono (by simp))
  have hz1 : w.heap.size + 1 ≤ w1.heap.size := by have := hb.size; simp at this; omega
  have hz1' : w.heap.size < w1.heap.size := hz1
  clear hn hd hb
  go_wp2_with fail
  refine (HZ.out _ (HM.out.below (show Below w.heap.size w _ from (by repeat (first | exact Below.refl _ _ | exact (HW1).out | refine below_drewN ?_ _ | refine Below.drew ?_ | refine Below.setCell ?_ (by first | omega | (simp; done) | (simp; omega)) _ | refine Below.alloc ?_ (by first | omega | (simp; done) | (simp; omega)) _))) (Nat.le_refl _))).mono ?_
  rintro e w2 ⟨B, b, E, f, rfl, hn, hd, hb⟩
  obtain ⟨hc2, hf2⟩ := bcell hb
  have HN2 := Lib.hid hn
  have HD2 := Lib.hid hd
  have Hb2 := Lib.hid hb
  have hz2 : w1.heap.size + 1 ≤ w2.heap.size := by have := hb.size; simp at this; omega
  have hz2' : w1.heap.size < w2.heap.size := hz2
  clear hn hd hb
  go_wp2_with fail
  obtain ⟨W2, hW2⟩ : ∃ W2, ((w2.alloc (.cells #[.bool false, .slice B 0 b, .slice E 1 f] 69)).alloc (.cells #[.bool rm, .slice A (dg rn).length c, .slice D (dg rd).length d, .bool false, .slice B 0 b, .slice E 1 f] 71)) = W2 := ⟨_, rfl⟩
  have HX : Hid (Below w2.heap.size w2 W2) := by show Below _ _ _; rw [← hW2]; exact (by repeat (first | exact Below.refl _ _ | assumption | refine below_drewN ?_ _ | refine Below.drew ?_ | refine Below.setCell ?_ (by first | omega | (simp; done) | (simp; omega)) _ | refine Below.alloc ?_ (by first | omega | (simp; done) | (simp; omega)) _))
  have H12 : Hid (Below w1.heap.size w1 W2) := (show Below w1.heap.size w1 _ from (Below.refl _ _).alloc (Nat.le_refl _) _).trans ((Hb2.out.trans (HX.out.mono Hb2.out.size)).mono (by simp))
  have hX2 : w2.heap.size + 2 ≤ W2.heap.size := by rw [← hW2]; simp
  have g1 : w1.heap.size < W2.heap.size := by omega
  have g2 : w2.heap.size < W2.heap.size := by omega
  have g3 : w2.heap.size + 1 < W2.heap.size := by omega
  have x0 : W2.cell? ⟨w1.heap.size, 0, none⟩ = some (.bool rm) := (HX.out.cell (p := ⟨w1.heap.size, 0, none⟩) hz2').trans ((hc2 _ 0 (by simp)).trans (by simp [go_sem]))
  have x1 : W2.cell? ⟨w1.heap.size, 1, none⟩ = some (.slice A (dg rn).length c) := (HX.out.cell (p := ⟨w1.heap.size, 1, none⟩) hz2').trans ((hc2 _ 1 (by simp)).trans (by simp [go_sem]))
  have x2 : W2.cell? ⟨w1.heap.size, 2, none⟩ = some (.slice D (dg rd).length d) := (HX.out.cell (p := ⟨w1.heap.size, 2, none⟩) hz2').trans ((hc2 _ 2 (by simp)).trans (by simp [go_sem]))
  have y0 : W2.cell? ⟨w2.heap.size, 0, none⟩ = some (.bool false) := by rw [← hW2]; simp [go_sem]
  have y1 : W2.cell? ⟨w2.heap.size, 1, none⟩ = some (.slice B 0 b) := by rw [← hW2]; simp [go_sem]
  have y2 : W2.cell? ⟨w2.heap.size, 2, none⟩ = some (.slice E 1 f) := by rw [← hW2]; simp [go_sem]
  have v0 : W2.cell? ⟨w2.heap.size + 1, 0, none⟩ = some (.bool rm) := by rw [← hW2]; simp [go_sem]
  have v1 : W2.cell? ⟨w2.heap.size + 1, 1, none⟩ = some (.slice A (dg rn).length c) := by rw [← hW2]; simp [go_sem]
  have v2 : W2.cell? ⟨w2.heap.size + 1, 2, none⟩ = some (.slice D (dg rd).length d) := by rw [← hW2]; simp [go_sem]
  have v3 : W2.cell? ⟨w2.heap.size + 1, 3, none⟩ = some (.bool false) := by rw [← hW2]; simp [go_sem]
  have v4 : W2.cell? ⟨w2.heap.size + 1, 4, none⟩ = some (.slice B 0 b) := by rw [← hW2]; simp [go_sem]
  have v5 : W2.cell? ⟨w2.heap.size + 1, 5, none⟩ = some (.slice E 1 f) := by rw [← hW2]; simp [go_sem]
  rw [hW2]
  clear hW2 hc2 hf2
  have HOK : Hid (VR.ok W2 ⟨⟨rm, rn, rd⟩, A, c, D, d, B, b, E, f⟩) := ⟨HN1.out.below H12.out, HD1.out.below H12.out, HN2.out.below HX.out, HD2.out.below HX.out⟩
  have HTB : Hid (Tab W2) := (HM.out.below (HW1.out.trans (H12.out.mono (by omega))) (Nat.le_refl _)).t
  refine (HT.out W2 ⟨⟨rm, rn, rd⟩, A, c, D, d, B, b, E, f⟩ rfl HOK.out HTB.out).mono ?_
  rintro e w3 ⟨rfl, hb⟩
  have H3 := Lib.hid hb
  obtain ⟨hc3, hf3⟩ := bcell hb
  clear hb
  go_wp2_with fail
  refine (HB1.out _ A c D d ⟨HOK.out.n.below H3.out, HOK.out.d.below H3.out⟩ (HTB.out.below H3.out (Nat.le_refl _))).mono ?_
  rintro e w4 ⟨rfl, hb⟩
  have H4 := Lib.hid (H3.out.trans (hb.mono H3.out.size))
  clear hb hc3 hf3
  obtain ⟨hc4, hf4⟩ := bcell H4.out
  go_wp2_with fail
  refine (HB2.out _ B b E f (HOK.out.z.below H4.out) (HOK.out.o.below H4.out) (HTB.out.below H4.out (Nat.le_refl _))).mono ?_
  rintro e w5 ⟨rfl, hb⟩
  have H5 := Lib.hid (H4.out.trans (hb.mono H4.out.size))
  clear hb hc4 hf4
  obtain ⟨hc5, hf5⟩ := bcell H5.out
  have H15 := Lib.hid (H12.out.trans (H5.out.mono (by omega)))
  have Z5 := Z1.out.keep H15.out
  have HZ5 := Lib.hid Z5
  obtain ⟨q0, q1, q2, q3, q4, q5, f0, f1, f2, f3, f4, f5, hlt, -⟩ := Z5
  have HOK5 := Lib.hid (HOK.out.below H5.out)
  have HW5 := Lib.hid (HW1.out.trans (H15.out.mono (by omega)))
  have k0 := (hc5 _ 0 g3).trans v0
  have k1 := (hc5 _ 1 g3).trans v1
  have k2 := (hc5 _ 2 g3).trans v2
  have k3 := (hc5 _ 3 g3).trans v3
  have k4 := (hc5 _ 4 g3).trans v4
  have k5 := (hc5 _ 5 g3).trans v5
  clear hc5 hf5 x0 x1 x2 y0 y1 y2 v0 v1 v2 v3 v4 v5
  go_wp2_with fail
  refine bodyPost_ret (v := .tuple #[.agg #[.bool rm, .slice A (dg rn).length c, .slice D (dg rd).length d, .bool false, .slice B 0 b, .slice E 1 f], .bool true]) ?h1 rfl ?h2
  case h1 => simp [results, Tryz.results47, go_sem, q0, q1, q2, q3, q4, q5]
  case h2 =>
    refine ⟨⟨⟨rm, rn, rd⟩, A, c, D, d, B, b, E, f⟩, rfl, rfl, ⟨?_, ?_, ?_, ?_⟩, ?_⟩
    · with_reducible exact zv_keeps HZ5.out HOK5.out.n _ _ _ _ _ _
    · with_reducible exact zv_keeps HZ5.out HOK5.out.d _ _ _ _ _ _
    · with_reducible exact zv_keeps HZ5.out HOK5.out.z _ _ _ _ _ _
    · with_reducible exact zv_keeps HZ5.out HOK5.out.o _ _ _ _ _ _
    · with_reducible exact zv_below HW5.out (Nat.le_refl _) _ _ _ _ _ _
end Go.Proofs.YtpphnnijnnfngaaGreatDoor

/-
  put, Of, Check, IsReal of real numbers of any size.
-/
namespace Go.Proofs.YtpphnnijnnfngaaGreatDoor
open Go.RowKit Al Nat9

/-- A quotient of two ints. -/
def ofZ (n d : Int) : Rat9 := Nat9.red (decide (n < 0) != decide (d < 0)) n.natAbs d.natAbs
theorem i64_len {z : Int} (h0 : -4611686018427387904 ≤ z) (h1 : z < 4611686018427387904) : (dg z.natAbs).length ≤ 3 := dg_len_le (by
  show z.natAbs < 1000000000000000000000000000
  omega)
theorem ofZ_ln (n d : Int) (h : d ≠ 0) (hn0 : -4611686018427387904 ≤ n) (hn1 : n < 4611686018427387904) (hd0 : -4611686018427387904 ≤ d) (hd1 : d < 4611686018427387904) : RLn 1000 (ofZ n d) :=
  RLn.red (by omega) _ (Nat.le_trans (i64_len hn0 hn1) (by omega)) (Nat.le_trans (i64_len hd0 hd1) (by omega)) (by omega)
theorem big_short {r : Rat9} (h1 : (dg r.n).length ≤ 100) (h2 : (dg r.d).length ≤ 100) : bigB r = false := by
  have a := dec_le r.n
  have b := dec_le r.d
  unfold bigB
  rw [decide_eq_false (by omega), decide_eq_false (by omega)]
  rfl
theorem ofZ_big (n d : Int) (h : d ≠ 0) (hn0 : -4611686018427387904 ≤ n) (hn1 : n < 4611686018427387904) (hd0 : -4611686018427387904 ≤ d) (hd1 : d < 4611686018427387904) : bigB (ofZ n d) = false := by
  have h := RLn.red (K := 3) (by omega) (decide (n < 0) != decide (d < 0)) (i64_len hn0 hn1) (i64_len hd0 hd1) (show 0 < d.natAbs by omega)
  exact big_short (Nat.le_trans h.n (by omega)) (Nat.le_trans h.d (by omega))
set_option maxRecDepth 100000 in
set_option maxHeartbeats 8000000 in
theorem putR_ (v : VR) (K : Nat) (hr : RLn K v.r) (hK : K ≤ 200000) (hnb : bigB v.r = false) (w : World) (h : v.ok w) (hT : Tab w) : Calls Tryz.prog 48 #[v.val] w fun e w' => e = .returned (.tuple #[.string (bT (txR v.r)), .int .i64 0]) ∧ Below w.heap.size w w' := by
  have HOK := Lib.hid h
  have HT : Hid (∀ W, v.ok W → Tab W → Calls Tryz.prog 80 #[v.val] W fun e w' => e = .returned (.string (bT (txR v.r))) ∧ Below W.heap.size W w') := fun W hW hTb => vtextG_ v K hr hK W hW hTb
  have HB1 : Hid (∀ W, v.ok W → Tab W → Calls Tryz.prog 81 #[v.r.val v.A v.c v.D v.d] W fun e w' => e = .returned (.bool false) ∧ Below W.heap.size W w') := fun W h hTb => by
    have h2 := rbigG_ v.r K hr hK v.A v.D v.c v.d W ⟨h.n, h.d⟩ hTb
    rw [hnb] at h2
    exact h2
  have HB2 : Hid (∀ W, v.ok W → Tab W → Calls Tryz.prog 81 #[.agg #[.bool false, .slice v.B 0 v.b, .slice v.E 1 v.f]] W fun e w' => e = .returned (.bool false) ∧ Below W.heap.size W w') := fun W h hTb => by
    have h := rbigG_ VR.zer 1 ⟨by show (dg 0).length ≤ 1; rw [len0]; omega, by show (dg 1).length ≤ 1; rw [len1]; omega, by decide⟩ (by omega) v.B v.E v.b v.f W ⟨h.z, h.o⟩ hTb
    rw [show bigB VR.zer = false by show (decide _ || decide _) = false; rw [show VR.zer.n = 0 from rfl, show VR.zer.d = 1 from rfl, Lib.decDigits_one (by omega), Lib.decDigits_one (by omega)]; rfl] at h
    simp only [Rat9.val, len0, len1] at h
    exact h
  have HTB := Lib.hid hT
  clear h hr hT hnb
  obtain ⟨R, hR⟩ : ∃ R, bT (txR v.r) = R := ⟨_, rfl⟩
  rw [hR] at HT ⊢
  clear hR
  obtain ⟨⟨rm, rn, rd⟩, A, c, D, d, B, b, E, f⟩ := v
  simp only [VR.val, Rat9.val] at HT HB1 HB2 ⊢
  go_enter Tryz.func48, Tryz.ntmps48
  go_wp2_with fail
  refine (HB1.out _ (HOK.out.below (by repeat (first | exact Below.refl _ _ | assumption | refine below_drewN ?_ _ | refine Below.drew ?_ | refine Below.setCell ?_ (by first | omega | (simp; done) | (simp; omega)) _ | refine Below.alloc ?_ (by first | omega | (simp; done) | (simp; omega)) _))) (HTB.out.below (show Below w.heap.size w _ from (by repeat (first | exact Below.refl _ _ | assumption | refine below_drewN ?_ _ | refine Below.drew ?_ | refine Below.setCell ?_ (by first | omega | (simp; done) | (simp; omega)) _ | refine Below.alloc ?_ (by first | omega | (simp; done) | (simp; omega)) _))) (Nat.le_refl _))).mono ?_
  rintro e w1 ⟨rfl, hb1⟩
  obtain ⟨hc1, hf1⟩ := bcell hb1
  have HW1 : Hid (Below w.heap.size w w1) := (show Below w.heap.size w _ from (by repeat (first | exact Below.refl _ _ | assumption | refine below_drewN ?_ _ | refine Below.drew ?_ | refine Below.setCell ?_ (by first | omega | (simp; done) | (simp; omega)) _ | refine Below.alloc ?_ (by first | omega | (simp; done) | (simp; omega)) _))).trans (hb1.mono (by first | omega | (simp; done) | (simp; omega)))
  have hz1 : w.heap.size + 1 ≤ w1.heap.size := by have := hb1.size; simp at this; omega
  have hz1' : w.heap.size < w1.heap.size := hz1
  clear hb1
  go_wp2_with fail
  refine (HB2.out _ (HOK.out.below (by repeat (first | exact Below.refl _ _ | exact (HW1).out | refine below_drewN ?_ _ | refine Below.drew ?_ | refine Below.setCell ?_ (by first | omega | (simp; done) | (simp; omega)) _ | refine Below.alloc ?_ (by first | omega | (simp; done) | (simp; omega)) _))) (HTB.out.below (show Below w.heap.size w _ from (by repeat (first | exact Below.refl _ _ | exact (HW1).out | refine below_drewN ?_ _ | refine Below.drew ?_ | refine Below.setCell ?_ (by first | omega | (simp; done) | (simp; omega)) _ | refine Below.alloc ?_ (by first | omega | (simp; done) | (simp; omega)) _))) (Nat.le_refl _))).mono ?_
  rintro e w2 ⟨rfl, hb2⟩
  obtain ⟨hc2, hf2⟩ := bcell hb2
  have HW2 : Hid (Below w.heap.size w w2) := HW1.out.trans (hb2.mono HW1.out.size)
  have hz2 : w1.heap.size ≤ w2.heap.size := hb2.size
  clear hb2
  go_wp2_with fail
  refine (HT.out _ (HOK.out.below (by repeat (first | exact Below.refl _ _ | exact (HW2).out | refine below_drewN ?_ _ | refine Below.drew ?_ | refine Below.setCell ?_ (by first | omega | (simp; done) | (simp; omega)) _ | refine Below.alloc ?_ (by first | omega | (simp; done) | (simp; omega)) _))) (HTB.out.below (show Below w.heap.size w _ from (by repeat (first | exact Below.refl _ _ | exact (HW2).out | refine below_drewN ?_ _ | refine Below.drew ?_ | refine Below.setCell ?_ (by first | omega | (simp; done) | (simp; omega)) _ | refine Below.alloc ?_ (by first | omega | (simp; done) | (simp; omega)) _))) (Nat.le_refl _))).mono ?_
  rintro e w3 ⟨rfl, hb3⟩
  have HW3 : Hid (Below w.heap.size w w3) := HW2.out.trans (hb3.mono HW2.out.size)
  clear hb3
  go_wp2_with fail
  go_ret2
  exact ⟨rfl, HW3.out⟩
set_option maxRecDepth 100000 in
set_option maxHeartbeats 8000000 in
theorem putB_ (v : VR) (K : Nat) (hr : RLn K v.r) (hK : K ≤ 200000) (hnb : bigB v.r = true) (w : World) (h : v.ok w) (hT : Tab w) : Calls Tryz.prog 48 #[v.val] w fun e w' => e = .returned (.tuple #[.string ⟨#[]⟩, .int .i64 11]) ∧ Below w.heap.size w w' := by
  have HOK := Lib.hid h
  have HB1 : Hid (∀ W, v.ok W → Tab W → Calls Tryz.prog 81 #[v.r.val v.A v.c v.D v.d] W fun e w' => e = .returned (.bool true) ∧ Below W.heap.size W w') := fun W h hTb => by
    have h2 := rbigG_ v.r K hr hK v.A v.D v.c v.d W ⟨h.n, h.d⟩ hTb
    rw [hnb] at h2
    exact h2
  have HTB := Lib.hid hT
  clear h hr hT hnb
  obtain ⟨⟨rm, rn, rd⟩, A, c, D, d, B, b, E, f⟩ := v
  simp only [VR.val, Rat9.val] at HB1 ⊢
  go_enter Tryz.func48, Tryz.ntmps48
  go_wp2_with fail
  refine (HB1.out _ (HOK.out.below (by repeat (first | exact Below.refl _ _ | assumption | refine below_drewN ?_ _ | refine Below.drew ?_ | refine Below.setCell ?_ (by first | omega | (simp; done) | (simp; omega)) _ | refine Below.alloc ?_ (by first | omega | (simp; done) | (simp; omega)) _))) (HTB.out.below (show Below w.heap.size w _ from (by repeat (first | exact Below.refl _ _ | assumption | refine below_drewN ?_ _ | refine Below.drew ?_ | refine Below.setCell ?_ (by first | omega | (simp; done) | (simp; omega)) _ | refine Below.alloc ?_ (by first | omega | (simp; done) | (simp; omega)) _))) (Nat.le_refl _))).mono ?_
  rintro e w1 ⟨rfl, hb1⟩
  obtain ⟨hc1, hf1⟩ := bcell hb1
  have HW1 : Hid (Below w.heap.size w w1) := (show Below w.heap.size w _ from (by repeat (first | exact Below.refl _ _ | assumption | refine below_drewN ?_ _ | refine Below.drew ?_ | refine Below.setCell ?_ (by first | omega | (simp; done) | (simp; omega)) _ | refine Below.alloc ?_ (by first | omega | (simp; done) | (simp; omega)) _))).trans (hb1.mono (by first | omega | (simp; done) | (simp; omega)))
  have hz1 : w.heap.size + 1 ≤ w1.heap.size := by have := hb1.size; simp at this; omega
  have hz1' : w.heap.size < w1.heap.size := hz1
  clear hb1
  go_wp2_with fail
  go_ret2
  exact ⟨rfl, HW1.out⟩
set_option maxRecDepth 100000 in
set_option maxHeartbeats 8000000 in
theorem OfG_ (n d : Int) (hn0 : -4611686018427387904 ≤ n) (hn1 : n < 4611686018427387904) (hd0 : -4611686018427387904 ≤ d) (hd1 : d < 4611686018427387904) (h0 : d ≠ 0) (w : World) (hT : Tab w) : Calls Tryz.prog 28 #[.int .i64 n, .int .i64 d] w fun e w' => e = .returned (.tuple #[.string (bT (txR (ofZ n d))), .int .i64 0]) ∧ Below w.heap.size w w' := by
  have HL := Lib.hid len1
  have hsh := ofZ_ln n d h0 hn0 hn1 hd0 hd1
  have hnb := ofZ_big n d h0 hn0 hn1 hd0 hd1
  have h1 : (d == 0) = false := beq_eq_false_iff_ne.2 h0
  have HPT : Hid (∀ W (v : VR), v.r = ofZ n d → v.ok W → Tab W → Calls Tryz.prog 48 #[v.val] W fun e w' => e = .returned (.tuple #[.string (bT (txR (ofZ n d))), .int .i64 0]) ∧ Below W.heap.size W w') := fun W v hv hW hTb => by
    have h := putR_ v 1000 (by rw [hv]; exact hsh) (by omega) (by rw [hv]; exact hnb) W hW hTb
    rw [hv] at h
    exact h
  have HN := Lib.hid (wholeG_ n hn0 hn1)
  have HD := Lib.hid (wholeG_ d hd0 hd1)
  have HR : Hid (∀ W A D c e, NaIn W A c n.natAbs → NaIn W D e d.natAbs → Calls Tryz.prog 60 #[.bool (decide (n < 0) != decide (d < 0)), .slice A (dg n.natAbs).length c, .slice D (dg d.natAbs).length e] W (RatT (ofZ n d) W)) := fun W A D c e h1 h2 => reducedG_ (decide (n < 0) != decide (d < 0)) n.natAbs d.natAbs A D c e W h1 h2 (Nat.le_trans (i64_len hn0 hn1) (by omega)) (by omega) (Nat.le_trans (i64_len hd0 hd1) (by omega))
  obtain ⟨r, hr⟩ : ∃ r, ofZ n d = r := ⟨_, rfl⟩
  rw [hr] at HPT HR ⊢
  have HTB := Lib.hid hT
  clear hr hsh hnb hT hn0 hn1 hd0 hd1
  simp only [whI] at HN HD
  obtain ⟨an, han⟩ : ∃ a, n.natAbs = a := ⟨_, rfl⟩
  obtain ⟨ad, had⟩ : ∃ a, d.natAbs = a := ⟨_, rfl⟩
  obtain ⟨sn, hsn⟩ : ∃ a, decide (n < 0) = a := ⟨_, rfl⟩
  obtain ⟨sd, hsd⟩ : ∃ a, decide (d < 0) = a := ⟨_, rfl⟩
  rw [han, hsn] at HN
  rw [had, hsd] at HD
  rw [han, had, hsn, hsd] at HR
  clear han had hsn hsd
  go_enter Tryz.func28, Tryz.ntmps28
  go_wp2_with fail
  refine (HN.out _).mono ?_
  rintro e w1 ⟨A1, c1, D1, d1, rfl, hn1, hd1, hb1⟩
  have HN1 := Lib.hid hn1
  have HW1 := Lib.hid hb1
  clear hn1 hd1 hb1
  go_wp2_with fail
  refine (HD.out _).mono ?_
  rintro e w2 ⟨A2, c2, D2, d2, rfl, hn2, hd2, hb2⟩
  have HN2 := Lib.hid hn2
  have HN1b := Lib.hid (HN1.out.below hb2)
  have HW2 := Lib.hid (HW1.out.trans (hb2.mono HW1.out.size))
  have hzw2 := HW2.out.size
  clear hn2 hd2 hb2
  go_wp2_with fail
  refine (HR.out _ _ _ _ _ (HN1b.out.below (show Below w2.heap.size w2 _ from (by repeat (first | exact Below.refl _ _ | assumption | refine below_drewN ?_ _ | refine Below.drew ?_ | refine Below.setCell ?_ (by first | omega | (simp; done) | (simp; omega)) _ | refine Below.alloc ?_ (by first | omega | (simp; done) | (simp; omega)) _)))) (HN2.out.below (show Below w2.heap.size w2 _ from (by repeat (first | exact Below.refl _ _ | assumption | refine below_drewN ?_ _ | refine Below.drew ?_ | refine Below.setCell ?_ (by first | omega | (simp; done) | (simp; omega)) _ | refine Below.alloc ?_ (by first | omega | (simp; done) | (simp; omega)) _))))).mono ?_
  rintro e w3 ⟨A3, c3, D3, d3, rfl, hn3, hd3, hb3⟩
  have HN3 := Lib.hid hn3
  have HD3 := Lib.hid hd3
  have HW3 : Hid (Below w.heap.size w w3) := (show Below w.heap.size w _ from (by repeat (first | exact Below.refl _ _ | exact (HW2).out | refine below_drewN ?_ _ | refine Below.drew ?_ | refine Below.setCell ?_ (by first | omega | (simp; done) | (simp; omega)) _ | refine Below.alloc ?_ (by first | omega | (simp; done) | (simp; omega)) _))).trans (hb3.mono (by have := HW2.out.size; simp; omega))
  clear hn3 hd3 hb3
  go_wp2_with fail
  refine (plain_ r A3 D3 c3 d3 _ ⟨HN3.out, HD3.out⟩).mono ?_
  rintro e w4 ⟨v, hv, rfl, hok, hb4⟩
  have HOK := Lib.hid hok
  have HV := Lib.hid hv
  have HW4 := Lib.hid (HW3.out.trans (hb4.mono HW3.out.size))
  clear hok hv hb4
  go_wp2_with fail
  refine (HPT.out _ v HV.out HOK.out (HTB.out.below HW4.out (Nat.le_refl _))).mono ?_
  rintro e w5 ⟨rfl, hb5⟩
  have HW5 := Lib.hid (HW4.out.trans (hb5.mono HW4.out.size))
  clear hb5
  go_wp2_with fail
  go_ret2
  exact ⟨rfl, HW5.out⟩
set_option maxRecDepth 100000 in
set_option maxHeartbeats 8000000 in
theorem CheckR_ (s : ByteArray) (r : Rat9) (w : World) (hM : RdN w) (hg : GetG s r) : Calls Tryz.prog 68 #[.string s] w fun e w' => e = .returned (.int .i64 0) ∧ Below w.heap.size w w' := by
  have HG := Lib.hid (getR_ s r w hM hg)
  clear hM hg
  go_enter Tryz.func68, Tryz.ntmps68
  go_wp2_with fail
  refine HG.out.mono ?_
  rintro e w1 ⟨v, -, rfl, -, hb⟩
  have HW := Lib.hid hb
  have hzw := hb.size
  clear hb
  obtain ⟨⟨rm, rn, rd⟩, A, c, D, d, B, b, E, f⟩ := v
  go_wp2_with fail
  go_ret
  exact ⟨rfl, (by repeat (first | exact Below.refl _ _ | exact (HW).out | refine below_drewN ?_ _ | refine Below.drew ?_ | refine Below.setCell ?_ (by first | omega | (simp; done) | (simp; omega)) _ | refine Below.alloc ?_ (by first | omega | (simp; done) | (simp; omega)) _))⟩
set_option maxRecDepth 100000 in
set_option maxHeartbeats 4000000 in
theorem IsRealR_ (s : ByteArray) (r : Rat9) (w : World) (hM : RdN w) (hg : GetG s r) : Calls Tryz.prog 69 #[.string s] w fun e w' => e = .returned (.bool true) ∧ Below w.heap.size w w' := by
  have HG := Lib.hid (getR_ s r w hM hg)
  clear hM hg
  go_enter Tryz.func69, Tryz.ntmps69
  go_wp2_with fail
  refine HG.out.mono ?_
  rintro e w1 ⟨v, -, rfl, -, hb⟩
  have HW := Lib.hid hb
  have hzw := hb.size
  clear hb
  have HI := Lib.hid (isReal_ v)
  obtain ⟨⟨rm, rn, rd⟩, A, c, D, d, B, b, E, f⟩ := v
  go_wp2_with fail
  refine (HI.out _).mono ?_
  rintro e w2 ⟨rfl, hb2⟩
  have HW2 : Hid (Below w.heap.size w w2) := (show Below w.heap.size w _ from (by repeat (first | exact Below.refl _ _ | exact (HW).out | refine below_drewN ?_ _ | refine Below.drew ?_ | refine Below.setCell ?_ (by first | omega | (simp; done) | (simp; omega)) _ | refine Below.alloc ?_ (by first | omega | (simp; done) | (simp; omega)) _))).trans (hb2.mono (by have := HW.out.size; first | omega | (simp; done) | (simp; omega)))
  clear hb2
  go_wp2_with fail
  go_ret
  exact ⟨rfl, HW2.out⟩
end Go.Proofs.YtpphnnijnnfngaaGreatDoor
