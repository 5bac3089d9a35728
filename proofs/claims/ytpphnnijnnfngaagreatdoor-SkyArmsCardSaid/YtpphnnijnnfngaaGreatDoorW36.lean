/-
  FormatUint to the base 10, for numbers below 2^64.
-/
import Derived.Test.YtpphnnijnnfngaaGreatDoorW35
import Derived.Test.YtpphnnijnnfngaaGreatDoorW09
import Derived.Lib.ItoaMem
import Derived.BigGuard
import Derived.Test.YtpphnnijnnfngaaGreatDoorW31
namespace Go.Proofs.YtpphnnijnnfngaaGreatDoor
open Go.RowKit Al Nat9 Go.Sort

/-- The library's table of powers of ten lies in the world. -/
def Tab (w : World) : Prop := Lib.TabIs Tryz.prog w "internal/strconv.uint64pow10" .u64 Lib.pow10Tab
theorem gTab : Tryz.prog.globalNamed "internal/strconv.uint64pow10" = some 1 := by kernel_rfl
theorem Tab.lt {w : World} (h : Tab w) : 1 < w.heap.size := by
  unfold Tab Lib.TabIs World.var? at h
  rw [gTab] at h
  rcases Nat.lt_or_ge 1 w.heap.size with h' | h'
  · exact h'
  · simp [Array.getElem?_eq_none h'] at h
theorem Tab.below {w w' : World} {B : Nat} (h : Tab w) (hb : Below B w w') (hB : w.heap.size ≤ B) : Tab w' := by
  have hl := h.lt
  unfold Tab Lib.TabIs World.var? at *
  rw [gTab] at *
  simp only [Option.bind_some] at *
  rw [hb.block _ (Nat.lt_of_lt_of_le hl hB)]
  exact h
/-- What the walks of numbers ask of the package variables. -/
structure RdN (w : World) : Prop where
  m : MxL w
  t : Tab w
theorem RdN.below {w w' : World} {B : Nat} (h : RdN w) (hb : Below B w w') (hB : w.heap.size ≤ B) : RdN w' := ⟨h.m.below hb hB, h.t.below hb hB⟩
theorem growB (w : World) (k : Nat) (os : Array Obj) : Below w.heap.size w (Go.Sort.grow (w.drewN k) os) := by
  refine (below_drewN (Below.refl _ _) k).trans ⟨rfl, rfl, rfl, ?_, fun i hi => ?_⟩
  · show (w.drewN k).heap.size ≤ ((w.drewN k).heap ++ os).size
    simp
  · show ((w.drewN k).heap ++ os)[i]? = _
    have e : (w.drewN k).heap = w.heap := World.heap_drewN w k
    rw [e, Array.getElem?_append_left hi]
theorem holds_zero0 (w : World) (T : TypeId) (nd : Nat) (hs : nd ≤ 24) : Holds (fun (b : UInt8) => Value.int .u8 (b.toNat : Int)) (w.alloc (.cells Lib.zeros24 T)) w.heap.size 0 (Array.replicate nd (0 : UInt8)) := fun j hj => by
  have hj' : j < nd := by simpa using hj
  refine ⟨?_, World.frozen?_alloc_new _ _ _ _⟩
  rw [World.cell?_alloc_new, Nat.zero_add, Lib.zeros24_at _ (by omega), getElem!_pos _ j hj]
  simp
theorem below_put (w : World) (o : Obj) (dk : Array UInt8) (k : Nat) : Below w.heap.size w ((putRow (fun (b : UInt8) => Value.int .u8 (b.toNat : Int)) (w.alloc o) w.heap.size 0 dk).drewN k) := by
  rw [alloc_eq_grow]
  obtain ⟨os', _, e⟩ := putRow_grow_new (fun (b : UInt8) => Value.int .u8 (b.toNat : Int)) w #[o] w.heap.size 0 dk (Nat.le_refl _)
  rw [e]
  exact growB w k os'
set_option maxRecDepth 100000 in
set_option maxHeartbeats 4000000 in
theorem ifmtG_ (u : Nat) (hu64 : u < 18446744073709551616) (w : World) (hT : Tab w) : Calls Tryz.prog 148 #[.int .u64 (u : Int), .int .i64 10] w fun e w' => e = .returned (.string (bT (Lib.decDigits u))) ∧ Below w.heap.size w w' := by
  rcases Nat.lt_or_ge u 100 with hs | hs
  · exact (ifmt_ u hs w).mono fun e w' ⟨he, hw⟩ => ⟨he, hw ▸ Below.refl _ _⟩
  · have hu1 : 1 ≤ u := by omega
    have hnd20 : Lib.nDigits u ≤ 20 := by have := Lib.numDigits_eq u hu1 hu64; split at this <;> omega
    have hal : Tryz.prog.arrayLen 218 = 24 := by kernel_rfl
    have hH0 := holds_zero0 w 218 (Lib.nDigits u) (by omega)
    have hfmt := Tryz.internal_strconv_formatBase10 w.heap.size 0 24 u (Array.replicate (Lib.nDigits u) 0) (w.alloc (.cells Lib.zeros24 218)) hH0 (by rw [Array.size_replicate]; exact Lib.lt_pow_nDigits u) hu64 (by rw [Array.size_replicate]; omega)
    rw [Array.size_replicate] at hfmt
    have HH0 := Lib.hid hH0
    have HF := Lib.hid hfmt
    have HND := Lib.hid (Tryz.internal_strconv_numDigits u hu1 hu64 (w.alloc (.cells Lib.zeros24 218)) (hT.below ((Below.refl _ _).alloc (Nat.le_refl _) _) (Nat.le_refl _)))
    have hsl : ∀ W, (Instr.sliceAt 218 (.pointer (some ⟨w.heap.size, 0, none⟩)) none (some (.int .i64 (Lib.nDigits u : Int))) none).run Tryz.prog W = .ok (.slice (some ⟨w.heap.size, 0, none⟩) (Lib.nDigits u) 24) W := fun W => by
      rw [run_sliceAt_array_h W 218 ⟨w.heap.size, 0, none⟩ (by kernel_rfl) .i64 (Lib.nDigits u : Int) (by omega) (by rw [hal]; omega)]
      simp [slicedAt, go_sem]
    clear hH0 hfmt hal
    go_enter Tryz.func148, Tryz.ntmps148
    go_wp2_with fail
    refine HND.out.mono ?_
    rintro e w1 ⟨rfl, rfl⟩
    go_wp2_with fail
    refine HF.out.mono ?_
    rintro e w2 ⟨rfl, k, v', dk, rfl, hF⟩
    have hcv : (convert 205 9 (.slice (some ⟨w.heap.size, 0, none⟩) (Lib.nDigits u) 24)).run Tryz.prog ((putRow (fun (b : UInt8) => Value.int .u8 (b.toNat : Int)) (w.alloc (.cells Lib.zeros24 218)) w.heap.size 0 dk).drewN k) = .ok (.string ⟨(Lib.decDigits u).toArray⟩) ((putRow (fun (b : UInt8) => Value.int .u8 (b.toNat : Int)) (w.alloc (.cells Lib.zeros24 218)) w.heap.size 0 dk).drewN k) := by
      have h := run_convert_bytes_back (P := Tryz.prog) ((putRow (fun (b : UInt8) => Value.int .u8 (b.toNat : Int)) (w.alloc (.cells Lib.zeros24 218)) w.heap.size 0 dk).drewN k) 205 9 5 ⟨w.heap.size, 0, none⟩ 24 (Lib.decDigits u) Tryz.underlying205 Tryz.underlying5 Tryz.underlying9 (fun j hj => by
        rw [Lib.row_is_numeral hF j hj, Lib.add_plain, World.cell?_drewN]
        exact cell?_putRow (fun (b : UInt8) => Value.int .u8 (b.toNat : Int)) _ w.heap.size 0 _ dk HH0.out (by rw [hF.size, Array.size_replicate]) j (by rw [hF.size]; rw [Lib.decDigits_length] at hj; exact hj))
      rw [Lib.decDigits_length] at h
      exact h
    have HB := Lib.hid (below_put w (.cells Lib.zeros24 218) dk k)
    clear hF
    go_wp2_with fail
    go_ret
    exact ⟨rfl, HB.out⟩
set_option maxRecDepth 100000 in
theorem fmtG_ (u : Nat) (hu64 : u < 18446744073709551616) (w : World) (hT : Tab w) : Calls Tryz.prog 140 #[.int .u64 (u : Int), .int .i64 10] w fun e w' => e = .returned (.string (bT (Lib.decDigits u))) ∧ Below w.heap.size w w' := by
  have HI := Lib.hid (ifmtG_ u hu64 w hT)
  go_enter Tryz.func140, Tryz.ntmps140
  go_wp2_with fail
  refine HI.out.mono ?_
  rintro e w' ⟨rfl, hb⟩
  have HB := Lib.hid hb
  clear hb
  go_wp2_with fail
  go_ret
  exact ⟨rfl, HB.out⟩
end Go.Proofs.YtpphnnijnnfngaaGreatDoor

/-
  Natural numbers of package num as text, of any size: the walks of size and text.
-/
namespace Go.Proofs.YtpphnnijnnfngaaGreatDoor
open Go.RowKit Al Nat9 Go.Sort

theorem na_top {w : World} {A : Option Addr} {c v : Nat} (h : NaIn w A c v) (h0 : 0 < v) : ∃ (b off d : Nat), A = some ⟨b, off, none⟩ ∧ b < w.heap.size ∧ w.cell? ⟨b, off + ((dg v).length - 1), none⟩ = some (.int .u64 (d : Int)) ∧ d < 1000000000 ∧ 0 < d ∧ (∃ hh : (dg v).length - 1 < (dg v).length, (dg v)[(dg v).length - 1] = d) ∧ (Lib.decDigits v).length = 9 * ((dg v).length - 1) + (Lib.decDigits d).length := by
  obtain ⟨hh, h1, _⟩ := dg_top h0
  obtain ⟨hh', e⟩ := dec_size h0
  obtain ⟨b, off, ea, hb, z⟩ := S64.u64_at h hh
  exact ⟨b, off, _, ea, hb, z, (dg_dg v).at hh, h1, ⟨hh, rfl⟩, e⟩
set_option maxRecDepth 100000 in
set_option maxHeartbeats 4000000 in
theorem nsizeG_ (v : Nat) (A : Option Addr) (c : Nat) (w : World) (h : NaIn w A c v) (hT : Tab w) (hl : (dg v).length ≤ 524288) : Calls Tryz.prog 117 #[.slice A (dg v).length c] w fun e w' => e = .returned (.int .i64 ((Lib.decDigits v).length : Int)) ∧ Below w.heap.size w w' := by
  by_cases h0 : v = 0
  · subst h0
    rw [len0, dec_zero]
    go_enter Tryz.func117, Tryz.ntmps117
    go_wp2_with fail
    go_ret
    exact ⟨rfl, Below.refl _ _⟩
  · obtain ⟨b, off, d, rfl, hb, z, hd9, hd0, -, hsz⟩ := na_top h (by omega)
    have hcap := S64.cap h
    have hl0 : 0 < (dg v).length := Nat.pos_of_ne_zero (fun e => h0 (dg_len0.1 e))
    have HF := Lib.hid (fmtG_ d (by omega) w hT)
    obtain ⟨n, hn⟩ : ∃ n, (dg v).length = n := ⟨_, rfl⟩
    rw [hn] at z hl hcap hl0 hsz ⊢
    rw [hsz]
    obtain ⟨S, hS⟩ : ∃ S, bT (Lib.decDigits d) = S := ⟨_, rfl⟩
    have HSS : Hid (S.size = (Lib.decDigits d).length) := by show _ = _; rw [← hS]; exact bT_size _
    obtain ⟨ld, hld⟩ : ∃ l, (Lib.decDigits d).length = l := ⟨_, rfl⟩
    have hld9 : ld ≤ 9 := by rw [← hld]; exact (pad_dec 8 d (by omega)).1
    rw [hld] at HSS ⊢
    rw [hS] at HF
    have eS : (S.size : Int) = (ld : Int) := by rw [HSS.out]
    have hn1 : (0 : Int) ≤ (n : Int) - 1 := by omega
    rw [show ((9 * (n - 1) + ld : Nat) : Int) = 9 * ((n : Int) - 1) + (ld : Int) by omega]
    have t0 : ((n : Int) == 0) = false := beq_eq_false_iff_ne.2 (by omega)
    clear h h0 hn hsz hS hld
    go_enter Tryz.func117, Tryz.ntmps117
    go_wp2_with fail
    refine HF.out.mono ?_
    rintro e w' ⟨rfl, hb'⟩
    have HB := Lib.hid hb'
    clear hb'
    go_wp2_with fail
    go_ret
    exact ⟨rfl, HB.out⟩
theorem repG_ (z : Nat) (hz : z ≤ 9) (w : World) : Calls Tryz.prog 146 #[.string ⟨#[48]⟩, .int .i64 (z : Int)] w fun e w' => e = .returned (.string (bT (List.replicate z 48))) ∧ Below w.heap.size w w' := by
  match z, hz with
  | 0, _ => exact (Tryz.strings_Repeat_zero ⟨#[48]⟩ w).mono fun e w' ⟨he, hw⟩ => ⟨he, hw ▸ Below.refl _ _⟩
  | 1, _ => exact (Tryz.strings_Repeat_one ⟨#[48]⟩ w).mono fun e w' ⟨he, hw⟩ => ⟨he, hw ▸ Below.refl _ _⟩
  | k + 2, hz =>
    refine (Tryz.strings_Repeat_main ⟨#[48]⟩ (k + 2) w (by omega) (by omega) (by show 1 * (k + 2) ≤ _; omega) (by decide)).mono fun e w' ⟨he, hw⟩ => ⟨?_, hw⟩
    rw [he]
    have e1 := Lib.repeatL_replicate 48 1 (k + 2)
    rw [Nat.mul_one] at e1
    rw [← e1]
    rfl
def TxtRel (l : List Nat) (w : World) (i : Value) (wr : World) : Prop :=
  ∃ k : Nat, k + 1 ≤ l.length ∧ i = .int .i64 ((k : Int) - 1) ∧ Hid (Lib.IsBuilder 207 5 w.heap.size w.heap.size (Lib.byteCells (Lib.decDigits (val (l.drop k)))) wr) ∧ Hid (Below w.heap.size w wr)
theorem dec_le (u : Nat) : (Lib.decDigits u).length ≤ 9 * (dg u).length + 1 := by
  rcases Nat.eq_zero_or_pos u with h | h
  · subst h; rw [dec_zero]; simp
  · obtain ⟨hh, e⟩ := dec_size h
    have := (pad_dec 8 _ ((dg_dg u).at hh)).1
    omega
set_option maxRecDepth 100000 in
set_option maxHeartbeats 8000000 in
theorem ntextG_ (v : Nat) (A : Option Addr) (c : Nat) (w : World) (h : NaIn w A c v) (hT : Tab w) (hl : (dg v).length ≤ 524288) : Calls Tryz.prog 139 #[.slice A (dg v).length c] w fun e w' => e = .returned (.string (bT (Lib.decDigits v))) ∧ Below w.heap.size w w' := by
  by_cases h0 : v = 0
  · subst h0
    rw [len0, dec_zero]
    go_enter Tryz.func139, Tryz.ntmps139
    go_wp2_with fail
    go_ret
    exact ⟨rfl, Below.refl _ _⟩
  · obtain ⟨b, off, d, rfl, hb, z, hd9, hd0, ⟨hh, htop⟩, -⟩ := na_top h (by omega)
    have hcap := S64.cap h
    have hmax := S64.max h
    have HA := Lib.hid h
    obtain ⟨l, hll⟩ : ∃ l, dg v = l := ⟨_, rfl⟩
    have HDG : Hid (DG l) := by show DG l; rw [← hll]; exact dg_dg v
    have HVL : Hid (val l = v) := by show val l = v; rw [← hll, val_dg]
    have HTP : Hid (∃ hh : l.length - 1 < l.length, l[l.length - 1] = d) := by
      subst hll
      exact ⟨hh, htop⟩
    unfold NaIn at HA
    rw [hll] at z hl hcap HA hh ⊢
    have HT := Lib.hid hT
    have hl0 : (0 : Int) ≤ (l.length : Int) - 1 := by omega
    have t0 : ((l.length : Int) == 0) = false := beq_eq_false_iff_ne.2 (by omega)
    have t1 : (l.length == 0) = false := beq_eq_false_iff_ne.2 (by omega)
    have HF : Hid (∀ W, Below w.heap.size w W → Calls Tryz.prog 140 #[.int .u64 (d : Int), .int .i64 10] W fun e w' => e = .returned (.string (bT (Lib.decDigits d))) ∧ Below W.heap.size W w') := fun W hW => fmtG_ d (by omega) W (HT.out.below hW (Nat.le_refl _))
    have hld9 : (Lib.decDigits d).length ≤ 9 := (pad_dec 8 d (by omega)).1
    obtain ⟨S, hS⟩ : ∃ S, bT (Lib.decDigits d) = S := ⟨_, rfl⟩
    have HSS : Hid (S.size ≤ 9) := by show _ ≤ _; rw [← hS, bT_size]; exact hld9
    have HSE := Lib.hid hS
    rw [hS] at HF
    clear h h0 hll hT htop hS hld9
    go_enter Tryz.func139, Tryz.ntmps139
    go_wp2_with fail
    refine (HF.out _ (by repeat (first | exact Below.refl _ _ | assumption | refine below_drewN ?_ _ | refine Below.drew ?_ | refine Below.setCell ?_ (by first | omega | (simp; done) | (simp; omega)) _ | refine Below.alloc ?_ (by first | omega | (simp; done) | (simp; omega)) _))).mono ?_
    rintro e w1 ⟨rfl, hb1⟩
    have hz1 := hb1.size
    simp at hz1
    have HW1 := Lib.hid ((show Below w.heap.size w _ from (by repeat (first | exact Below.refl _ _ | assumption | refine below_drewN ?_ _ | refine Below.drew ?_ | refine Below.setCell ?_ (by first | omega | (simp; done) | (simp; omega)) _ | refine Below.alloc ?_ (by first | omega | (simp; done) | (simp; omega)) _))).trans (hb1.mono (by simp)))
    have HBD : Hid (Lib.IsBuilder 207 5 w.heap.size w.heap.size [] w1) := bldBelow (.inl ⟨Nat.le_refl _, _, heap_alloc_new w _, World.ownsRow_nil _ _ _ _, by simp [Value.ownBlock]⟩) hb1
    clear hb1
    go_wp2_with fail
    refine (bldWrite w.heap.size w.heap.size [] S _ HBD.out (by have := HSS.out; simp; omega) (by omega)).mono ?_
    rintro e w2 ⟨rfl, h5, h6⟩
    have HB2 : Hid (Lib.IsBuilder 207 5 w.heap.size w.heap.size (Lib.byteCells (Lib.decDigits d)) w2) := .inr (by rw [List.nil_append, Lib.strCells_eq, ← HSE.out] at h5; exact h5)
    have HW2 := Lib.hid (HW1.out.trans h6)
    clear h5 h6 HBD
    go_wp2_with fail
    go_loopw [4] (fun i wr => TxtRel l w i wr) (fun i _ => (intOf i + 1).toNat)
    case atStart =>
      refine ⟨l.length - 1, by omega, by go_num, ?_, HW2⟩
      obtain ⟨h1, h2⟩ := HTP.out
      have e : val (l.drop (l.length - 1)) = d := by
        rw [drop_val h1, List.drop_eq_nil_of_le (by omega), h2]
        simp [val]
      rw [e]
      exact HB2
    case round =>
      obtain ⟨k, hk, rfl, HBD, HWR⟩ := hrel
      clear HB2
      have hsz := HWR.out.size
      cases k with
      | zero =>
        have hbig := dec_le v
        go_wp2_with fail
        refine (Tryz.Builder_String_any w.heap.size w.heap.size (Lib.decDigits v) _ (by have h := HBD.out; rw [List.drop_zero, HVL.out] at h; exact h) hsz).mono ?_
        rintro e w3 ⟨rfl, h6⟩
        have HW3 := Lib.hid (HWR.out.trans h6)
        clear h6
        go_wp2_with fail
        go_ret
        exact ⟨rfl, HW3.out⟩
      | succ k =>
        have hkl : k < l.length := by omega
        have e0 : ((k + 1 : Nat) : Int) - 1 = (k : Int) := by omega
        rw [e0]
        clear e0
        obtain ⟨b', o', eA, hb', z1⟩ := (HA.out.below HWR.out).u64_at hkl
        cases eA
        obtain ⟨hh', htop⟩ := HTP.out
        have hvp : 0 < val (l.drop (k + 1)) := by
          have h := (Nat9.dec_len HDG.out (l.length - 1 - (k + 1)) (by omega) (by rw [htop]; exact hd0)).2
          rw [show l.length - 1 - (l.length - 1 - (k + 1)) = k + 1 by omega] at h
          exact h
        obtain ⟨hN, hx9⟩ := dec_digit HDG.out hkl hvp
        have HN := Lib.hid hN
        have hq9 := HDG.out.at hkl
        obtain ⟨x, hx⟩ : ∃ x, l[k] = x := ⟨_, rfl⟩
        rw [hx] at z1 HN hx9 hq9
        have hb2 : b < wr.heap.size := by omega
        have HFX := Lib.hid (fmtG_ x (by omega) wr (HT.out.below HWR.out (Nat.le_refl _)))
        obtain ⟨X, hX⟩ : ∃ X, bT (Lib.decDigits x) = X := ⟨_, rfl⟩
        have hXs : X.size = (Lib.decDigits x).length := by rw [← hX]; exact bT_size _
        obtain ⟨zz, hzz⟩ : ∃ zz, 9 - (Lib.decDigits x).length = zz := ⟨_, rfl⟩
        have eZ : (9 : Int) - (X.size : Int) = (zz : Int) := by rw [hXs]; omega
        have hzz9 : zz ≤ 9 := by omega
        have hX9 : X.size ≤ 9 := by rw [hXs]; exact hx9
        rw [hX] at HFX
        rw [hzz] at HN
        have HXE := Lib.hid hX
        have hkc : (k : Int) < (l.length : Int) := by omega
        obtain ⟨Z, hZ⟩ : ∃ Z, bT (List.replicate zz 48) = Z := ⟨_, rfl⟩
        have hZ9 : Z.size ≤ 9 := by rw [← hZ, bT_size]; simpa using hzz9
        have HRP : Hid (∀ W, Calls Tryz.prog 146 #[.string ⟨#[48]⟩, .int .i64 (zz : Int)] W fun e w' => e = .returned (.string Z) ∧ Below W.heap.size W w') := fun W => hZ ▸ repG_ zz hzz9 W
        have HZE := Lib.hid hZ
        have hbig : (Lib.decDigits (val (l.drop (k + 1)))).length ≤ 9 * 524288 + 1 := by
          have h1 := dec_le (val (l.drop (k + 1)))
          have h2 := dg_len_le (val_lt (HDG.out.drop (k + 1)))
          rw [List.length_drop] at h2
          omega
        clear hN hx hX hzz hXs hZ
        go_wp2_with fail
        refine HFX.out.mono ?_
        rintro e w3 ⟨rfl, h3⟩
        have HW3 := Lib.hid (HWR.out.trans (h3.mono hsz))
        have HB3 := Lib.hid (bldBelow HBD.out h3)
        clear h3 HBD
        go_wp2_with fail
        refine (HRP.out _).mono ?_
        rintro e w4 ⟨rfl, h4⟩
        have hsz3 := HW3.out.size
        have HW4 := Lib.hid (HW3.out.trans (h4.mono hsz3))
        have HB4 := Lib.hid (bldBelow HB3.out h4)
        have hsz4 := HW4.out.size
        clear h4 HB3
        go_wp2_with fail
        refine (bldWrite w.heap.size w.heap.size _ (Z ++ X) _ HB4.out (by rw [Lib.byteCells_length]; simp; omega) hsz4).mono ?_
        rintro e w5 ⟨rfl, h5, h6⟩
        have HB5 : Hid (Lib.IsBuilder 207 5 w.heap.size w.heap.size (Lib.byteCells (Lib.decDigits (val (l.drop k)))) w5) := .inr (by
          have e : Lib.byteCells (Lib.decDigits (val (l.drop k))) = Lib.byteCells (Lib.decDigits (val (l.drop (k + 1)))) ++ Lib.strCells (Z ++ X) := by
            rw [HN.out, Lib.byteCells_append, Lib.strCells_eq, ← HXE.out, ← HZE.out, bT_app]
            rfl
          rw [e]
          exact h5)
        have HW5 := Lib.hid (HW4.out.trans h6)
        clear h5 h6
        go_wp2_with fail
        go_roundw
        case rel => exact ⟨k, by omega, by go_num, HB5, HW5⟩
        case measure => first | (simp [intOf]; done) | (simp [intOf]; omega)
end Go.Proofs.YtpphnnijnnfngaaGreatDoor
