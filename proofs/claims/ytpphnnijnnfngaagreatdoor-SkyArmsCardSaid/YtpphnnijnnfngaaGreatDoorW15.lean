/-
  The walks of the sky's realOf (valid real numbers) and weighed.
-/
import Derived.Test.YtpphnnijnnfngaaGreatDoorW09
import Derived.Test.YtpphnnijnnfngaaGreatDoorW06
import Derived.Test.YtpphnnijnnfngaaGreatDoorW10
import Derived.Deep.AppendLies
namespace Go.Proofs.YtpphnnijnnfngaaGreatDoor
open Go.RowKit Al Nat9

set_option maxRecDepth 100000 in
theorem realOf_ (s : ByteArray) (r : Rat9) (w : World) (hM : MxL w) (hg : GetOk s r) : Calls Tryz.prog 36 #[.string s] w fun e w' => e = .returned (.int .i64 0) ∧ Below w.heap.size w w' := by
  have HC := Lib.hid (Check_ s r w hM hg)
  have HI : Hid (∀ W, MxL W → Calls Tryz.prog 69 #[.string s] W fun e w' => e = .returned (.bool true) ∧ Below W.heap.size W w') := fun W hW => IsReal_ s r W hW hg
  have HM := Lib.hid hM
  clear hM hg
  go_enter Tryz.func36, Tryz.ntmps36
  go_wp2_with fail
  refine HC.out.mono ?_
  rintro e w1 ⟨rfl, hb⟩
  have HW := Lib.hid hb
  clear hb
  go_wp2_with fail
  refine (HI.out _ (HM.out.below HW.out (Nat.le_refl _))).mono ?_
  rintro e w2 ⟨rfl, hb⟩
  have HW2 := Lib.hid (HW.out.trans (hb.mono HW.out.size))
  clear hb
  go_wp2_with fail
  go_ret
  exact ⟨rfl, HW2.out⟩
/-- Cells that rise, below many. -/
def incB (many : Int) : Int → List Int → Bool
  | _, [] => true
  | last, c :: t => !(decide (c ≤ last) || decide (many ≤ c)) && incB many c t
def badW (ws : List Int) : Bool := ws.any fun x => !inB x 0 1000
/-- Weights and some cells of a grid. -/
def weighedB (n : Int) (ws some : List Int) : Bool := decide ((ws.length : Int) = 6 * n * n) && !badW ws && incB (6 * n * n) (-1) some
set_option maxRecDepth 100000 in
theorem weighed1_ (x : Int) (w : World) : Calls Tryz.prog 67 #[.int .i64 x] w fun e w' => e = .returned (.bool (!inB x 0 1000)) ∧ w = w' := by
  go_enter Tryz.func67, Tryz.ntmps67
  go_wp2_with fail
  refine (swithin_ x 0 1000 _).mono ?_
  rintro e w' ⟨rfl, rfl⟩
  go_wp2_with fail
  go_ret
  exact ⟨rfl, rfl⟩
theorem weighedC_ (ws : List Int) (A : Option Addr) (c : Nat) (w : World) (h : Sl w w.heap.size 1 A ws.length c (ints ws)) :
    Calls Tryz.prog 66 #[.slice A ws.length c, .func (.func 67) #[] #[]] w fun e w' => e = .returned (.bool (badW ws)) ∧ ∃ q, w' = w.drewN q := by
  have hbig : ws.length ≤ 9223372036854775807 := Nat.le_trans h.cap h.max
  rcases Nat.eq_zero_or_pos ws.length with h0 | h0
  · have e0 : ws = [] := List.eq_nil_of_length_eq_zero h0
    subst e0
    exact (Tryz.slices_ContainsFunc_empty (α := Int) A c _ w).mono fun e w' ⟨he, hw⟩ => ⟨he, 0, by rw [hw]; rfl⟩
  · obtain ⟨b, off, rfl, hb, hc⟩ := h.at_ h0
    have hx := Tryz.slices_ContainsFunc (α := Int) (Value.int .i64) (fun x => !inB x 0 1000) 67 #[] (enters_of Tryz.func67 (by kernel_rfl) rfl) b off ws.length c ws w (fun W x _ => (weighed1_ x W).mono fun e w' ⟨he, hw⟩ => ⟨he, 0, by rw [← hw]; rfl⟩) (Nat.le_refl _) hbig (fun j hj => by
      have := hc j (.int .i64 ws[j]) (ints_at hj)
      rw [this, getElem!_pos ws j hj])
    rw [List.take_length] at hx
    exact hx
def WgRel (many : Int) (l : List Int) (w : World) (o i : Value) (wr : World) : Prop := ∃ (k : Nat) (lv : Int), k ≤ l.length ∧ i = .int .i64 (k : Int) ∧ o = .int .i64 lv ∧ incB many (-1) l = incB many lv (l.drop k) ∧ ∃ q, wr = w.drewN q
set_option maxRecDepth 100000 in
set_option maxHeartbeats 1000000 in
theorem weighed_ (n : Int) (h1 : 1 ≤ n) (h8 : n ≤ 8) (ws some : List Int) (A B : Option Addr) (c d : Nat) (w : World) (hw : Sl w w.heap.size 1 A ws.length c (ints ws)) (hs : Sl w w.heap.size 1 B some.length d (ints some)) :
    Calls Tryz.prog 35 #[.int .i64 n, .slice A ws.length c, .slice B some.length d] w fun e w' => e = .returned (.bool (weighedB n ws some)) ∧ ∃ q, w' = w.drewN q := by
  have hnn : 0 ≤ 6 * n ∧ 6 * n ≤ 48 := by omega
  have hq : 0 ≤ 6 * n * n ∧ 6 * n * n ≤ 384 := by
    have a1 : 6 * n * n ≤ 48 * n := Int.mul_le_mul_of_nonneg_right hnn.2 (by omega)
    have a2 : 0 ≤ 6 * n * n := Int.mul_nonneg hnn.1 (by omega)
    omega
  obtain ⟨many, hm⟩ : ∃ m, 6 * n * n = m := ⟨_, rfl⟩
  have HC := Lib.hid (weighedC_ ws A c w hw)
  have HS := Lib.hid hs
  have hsl : some.length ≤ 9223372036854775807 := Nat.le_trans hs.cap hs.max
  have hwl : ws.length ≤ 9223372036854775807 := Nat.le_trans hw.cap hw.max
  have HV : Hid (weighedB n ws some = (decide ((ws.length : Int) = many) && !badW ws && incB many (-1) some)) := by show _ = _; rw [← hm]; rfl
  obtain ⟨v, hv⟩ : ∃ v, weighedB n ws some = v := ⟨_, rfl⟩
  rw [hv] at HV ⊢
  rw [hm] at hq
  have hq1 := hq.1
  have hq2 := hq.2
  clear hw hs hv hq
  by_cases hl : (ws.length : Int) = many
  · have t1 : ((ws.length : Int) != many) = false := by simp [hl]
    cases hb : badW ws with
    | true =>
      rw [hb] at HC
      obtain rfl : v = false := by rw [HV.out, hb]; simp
      clear hb hl
      go_enter Tryz.func35, Tryz.ntmps35
      go_wp2_with fail
      refine HC.out.mono ?_
      rintro e w' ⟨rfl, q, rfl⟩
      go_wp2_with fail
      go_ret
      exact ⟨rfl, q, rfl⟩
    | false =>
      rw [hb] at HC
      have HX : Hid (v = incB many (-1) some) := by show _ = _; rw [HV.out, hb, decide_eq_true hl]; simp
      clear hb hl
      go_enter Tryz.func35, Tryz.ntmps35
      go_wp2_with fail
      refine HC.out.mono ?_
      rintro e w' ⟨rfl, q0, rfl⟩
      go_wp2_with fail
      go_loopw [8, 25] (fun o i wr => WgRel many some w o i wr) (fun _ i _ => some.length - (intOf i).toNat)
      case atStart => exact ⟨0, -1, Nat.zero_le _, rfl, rfl, rfl, q0, rfl⟩
      case round =>
        obtain ⟨k, lv, hk, rfl, rfl, hi, q, rfl⟩ := hrel
        have HI := Lib.hid hi
        clear hi
        by_cases hlt : k < some.length
        · obtain ⟨tb, tof9, rfl, htb, c0⟩ := (HS.out.drewN q).int_at hlt hlt
          obtain ⟨x, hx⟩ : ∃ x, some[k] = x := ⟨_, rfl⟩
          have HN : Hid (incB many lv (some.drop k) = (!(decide (x ≤ lv) || decide (many ≤ x)) && incB many x (some.drop (k + 1)))) := by
            show _ = _
            rw [List.drop_eq_getElem_cons hlt, hx]
            rfl
          rw [hx] at c0
          have hlt' : (k : Int) < (some.length : Int) := by omega
          have htb2 : tb < w.heap.size := htb
          clear hx
          by_cases ha : x ≤ lv
          · obtain rfl : v = false := by rw [HX.out, HI.out, HN.out, decide_eq_true ha]; rfl
            go_wp2_with fail
            go_ret
            exact ⟨rfl, (by first | exact ⟨q, rfl⟩ | exact ⟨_, rfl⟩)⟩
          · by_cases hb2 : many ≤ x
            · obtain rfl : v = false := by rw [HX.out, HI.out, HN.out, decide_eq_false ha, decide_eq_true hb2]; rfl
              go_wp2_with fail
              go_ret
              exact ⟨rfl, (by first | exact ⟨q, rfl⟩ | exact ⟨_, rfl⟩)⟩
            · have HE : Hid (incB many (-1) some = incB many x (some.drop (k + 1))) := by show _ = _; rw [HI.out, HN.out, decide_eq_false ha, decide_eq_false hb2]; rfl
              go_wp2_with fail
              go_roundw
              case rel => exact ⟨k + 1, x, by omega, by go_num, rfl, HE.out, (by first | exact ⟨q, rfl⟩ | exact ⟨_, rfl⟩)⟩
              case measure => simp [intOf]; omega
        · obtain rfl : k = some.length := by omega
          obtain rfl : v = true := by rw [HX.out, HI.out, List.drop_length]; rfl
          go_wp2_with fail
          go_ret
          exact ⟨rfl, q, rfl⟩
  · have t1 : ((ws.length : Int) != many) = true := by simp [hl]
    obtain rfl : v = false := by rw [HV.out, decide_eq_false hl]; rfl
    clear hl
    go_enter Tryz.func35, Tryz.ntmps35
    go_wp2_with fail
    go_ret
    exact ⟨rfl, 0, rfl⟩
end Go.Proofs.YtpphnnijnnfngaaGreatDoor

/-
  The walk of slices.SortStableFunc at fewer than twenty cells, ordered by weights (greatest first).
-/
namespace Go.Proofs.YtpphnnijnnfngaaGreatDoor
open Go.RowKit Go.Sort Al

set_option maxRecDepth 100000 in
theorem cred1_ (ws : List Int) (A : Option Addr) (c B : Nat) (i j : Nat) (hi : i < ws.length) (hj : j < ws.length) (hb : ∀ x ∈ ws, 0 ≤ x ∧ x ≤ 1000) (w : World) (hbox : w.cell? ⟨B, 0, none⟩ = some (.slice A ws.length c)) (h : Sl w w.heap.size 1 A ws.length c (ints ws)) :
    Calls Tryz.prog 40 #[.int .i64 (i : Int), .int .i64 (j : Int), .pointer (some ⟨B, 0, none⟩)] w fun e w' => e = .returned (.int .i64 (ws[j] - ws[i])) ∧ ∃ q, w' = w.drewN q := by
  obtain ⟨b, off, rfl, hlt, c1⟩ := h.int_at hi hi
  obtain ⟨b2, off2, he, hlt2, c2⟩ := h.int_at hj hj
  cases he
  have hx := hb ws[i] (List.getElem_mem hi)
  have hy := hb ws[j] (List.getElem_mem hj)
  obtain ⟨x, hx0⟩ : ∃ x, ws[i] = x := ⟨_, rfl⟩
  obtain ⟨y, hy0⟩ : ∃ y, ws[j] = y := ⟨_, rfl⟩
  rw [hx0] at hx c1 ⊢
  rw [hy0] at hy c2 ⊢
  have hxl := hx.1
  have hxu := hx.2
  have hyl := hy.1
  have hyu := hy.2
  have hi' : (i : Int) < (ws.length : Int) := by omega
  have hj' : (j : Int) < (ws.length : Int) := by omega
  have hi0 : (0 : Int) ≤ (i : Int) := by omega
  have hj0 : (0 : Int) ≤ (j : Int) := by omega
  have hs : IntKind.i64.wrap (y - x) = y - x := IntWalk.i64_in _ (by omega)
  clear h hb hx hy hx0 hy0
  go_enter Tryz.func40, Tryz.ntmps40
  go_wp2_with fail
  go_quiet (fail)
  go_wp2_with fail
  go_ret
  exact ⟨rfl, (by first | exact ⟨_, rfl⟩ | exact ⟨0, rfl⟩)⟩
/-- A cell of another block, in a world that the sort passes through. -/
theorem sw_cell {α : Type} [Inhabited α] (enc : α → Value) (w : World) (blk off m : Nat) (dk : Array α) (os : Array Obj) (b o : Nat) (hb : b < w.heap.size) (hne : b ≠ blk) : (sortWorld enc w blk off m dk os).cell? ⟨b, o, none⟩ = w.cell? ⟨b, o, none⟩ := by
  unfold sortWorld
  rw [cell?_grow _ _ _ (by rw [size_putRow]; exact hb), cell?_putRow_other _ _ _ _ _ _ (.inl hne)]
  rfl
theorem sw_size {α : Type} [Inhabited α] (enc : α → Value) (w : World) (blk off m : Nat) (dk : Array α) (os : Array Obj) : w.heap.size ≤ (sortWorld enc w blk off m dk os).heap.size := by
  unfold sortWorld grow
  simp
/-- The order of cells by weights, the greatest first. -/
def wLt (ws : List Int) (x y : Fin ws.length) : Int := ws[y.1] - ws[x.1]
def eFin {n : Nat} (x : Fin n) : Value := .int .i64 (x.1 : Int)
theorem credReads (ws : List Int) (A : Option Addr) (c B blk off size : Nat) (hb : ∀ x ∈ ws, 0 ≤ x ∧ x ≤ 1000) (w : World) (hbox : w.cell? ⟨B, 0, none⟩ = some (.slice A ws.length c)) (h : Sl w blk 1 A ws.length c (ints ws)) (hB : B < blk) (hblk : blk < w.heap.size) [Inhabited (Fin ws.length)] :
    CmpReads Tryz.prog 40 #[.pointer (some ⟨B, 0, none⟩)] eFin (wLt ws) blk off size w := by
  intro m os dk hdk x y
  refine cred1_ ws A c B x.1 y.1 x.2 y.2 hb _ ((sw_cell _ w blk off m dk os B 0 (by omega) (by omega)).trans hbox) ?_
  refine Sl.more (Sl.keep h fun b o hlt => sw_cell _ w blk off m dk os b o (by omega) (by omega)) (Nat.le_trans (by omega) (sw_size ..))
theorem eFin_one {n : Nat} : OneCell (eFin (n := n)) := fun _ => rfl
set_option maxRecDepth 100000 in
set_option maxHeartbeats 1000000 in
theorem stable_ (ws : List Int) (A : Option Addr) (c B blk off cap : Nat) [Inhabited (Fin ws.length)] (d : Array (Fin ws.length)) (hb : ∀ x ∈ ws, 0 ≤ x ∧ x ≤ 1000) (w : World) (hbox : w.cell? ⟨B, 0, none⟩ = some (.slice A ws.length c)) (h : Sl w blk 1 A ws.length c (ints ws)) (hB : B < blk) (hblk : blk < w.heap.size) (hd : d.size < 20) (hH : Holds eFin w blk off d) :
    Calls Tryz.prog 71 #[.slice (some ⟨blk, off, none⟩) d.size cap, .int .i64 (d.size : Int), .func (.func 40) #[] #[.pointer (some ⟨B, 0, none⟩)]] w fun e w' =>
      e = .returned (.tuple #[]) ∧ ∃ n, w' = (putRow eFin w blk off (Sort.insertionSort (ltOf (wLt ws)) d 0 d.size)).drewN n := by
  have HI := Lib.hid (Tryz.insertionSortCmpFunc_one eFin eFin_one (wLt ws) 40 #[.pointer (some ⟨B, 0, none⟩)] blk off cap 0 d.size d w (enters_of Tryz.func40 (by kernel_rfl) rfl) (credReads ws A c B blk off d.size hb w hbox h hB hblk) hH (Nat.zero_le _) (Nat.le_refl _) (by omega))
  have h1 : ¬ (20 : Int) ≤ (d.size : Int) := by omega
  have h2 : ¬ (20 : Int) < (d.size : Int) := by omega
  clear hbox h hH
  go_enter Tryz.func71, Tryz.ntmps71
  go_wp2_with fail
  go_loopw [8, 7] (fun b a wr => b = .int .i64 20 ∧ a = .int .i64 0 ∧ wr = w) (fun _ _ _ => 0)
  case atStart => exact ⟨rfl, rfl, rfl⟩
  case round =>
    obtain ⟨rfl, rfl, rfl⟩ := hrel
    go_wp2_with fail
    refine HI.out.mono ?_
    rintro e w1 ⟨rfl, n, rfl⟩
    obtain ⟨W1, hW1⟩ : ∃ W, (putRow eFin wr blk off (Sort.insertionSort (ltOf (wLt ws)) d 0 d.size)).drewN n = W := ⟨_, rfl⟩
    have HW1 := Lib.hid hW1
    rw [hW1]
    clear hW1
    go_wp2_with fail
    go_loopw [6] (fun b wr => b = .int .i64 20 ∧ wr = W1) (fun _ _ => 0)
    case atStart => exact ⟨rfl, rfl⟩
    case round =>
      obtain ⟨rfl, rfl⟩ := hrel
      go_wp2_with fail
      go_end0
      exact ⟨rfl, n, HW1.out.symm⟩
set_option maxRecDepth 100000 in
set_option maxHeartbeats 1000000 in
theorem sortS_ (ws : List Int) (A : Option Addr) (c B blk off cap : Nat) [Inhabited (Fin ws.length)] (d : Array (Fin ws.length)) (hb : ∀ x ∈ ws, 0 ≤ x ∧ x ≤ 1000) (w : World) (hbox : w.cell? ⟨B, 0, none⟩ = some (.slice A ws.length c)) (h : Sl w blk 1 A ws.length c (ints ws)) (hB : B < blk) (hblk : blk < w.heap.size) (hd : d.size < 20) (hH : Holds eFin w blk off d) :
    Calls Tryz.prog 39 #[.slice (some ⟨blk, off, none⟩) d.size cap, .func (.func 40) #[] #[.pointer (some ⟨B, 0, none⟩)]] w fun e w' =>
      e = .returned (.tuple #[]) ∧ ∃ n, w' = (putRow eFin w blk off (Sort.insertionSort (ltOf (wLt ws)) d 0 d.size)).drewN n := by
  have HI := Lib.hid (stable_ ws A c B blk off cap d hb w hbox h hB hblk hd hH)
  clear hbox h hH
  go_enter Tryz.func39, Tryz.ntmps39
  go_wp2_with fail
  refine HI.out.mono ?_
  rintro e w1 ⟨rfl, n, rfl⟩
  go_wp2_with fail
  go_end0
  exact ⟨rfl, n, rfl⟩
end Go.Proofs.YtpphnnijnnfngaaGreatDoor

/-
  The walk of the sky's Credible at the chapter's map: weights 5, 1, 1, 3, 0, 0, cells 0, 2, 3.
-/
namespace Go.Proofs.YtpphnnijnnfngaaGreatDoor
open Go.RowKit Go.Sort Al Nat9

theorem below_putRow {α : Type} [Inhabited α] (enc : α → Value) (w : World) (B blk off : Nat) (d : Array α) (h : B ≤ blk) : Below B w (putRow enc w blk off d) := by
  refine ⟨rfl, rfl, rfl, by simp, fun k hk => ?_⟩
  unfold putRow mapBlock
  simp only
  rw [Array.getElem?_modify]
  simp [show blk ≠ k by omega]
theorem below_grow (w : World) (os : Array Obj) (B : Nat) (h : B ≤ w.heap.size) : Below B w (grow w os) := by
  refine ⟨rfl, rfl, rfl, by unfold grow; simp, fun k hk => ?_⟩
  rw [heap_grow_old w os (by omega)]
/-- The chapter's map. -/
def W6 : List Int := [5, 1, 1, 3, 0, 0]
/-- Sums of the greatest weights. -/
def sumK : Nat → Nat
  | 0 => 0
  | 1 => 5
  | _ => 8
def cellK : Nat → Int
  | 0 => 0
  | 1 => 3
  | _ => 2
/-- What Credible does with a part: it takes K cells. -/
structure CrOk (p : ByteArray) (r : Rat9) (K : Nat) : Prop where
  g : GetOk p r
  lo : 0 ≤ r.cmp (ofI 0 1)
  hi : r.cmp (ofI 1 1) ≤ 0
  ca : (Lib.cut p.data.toList [47]).1.length ≤ 200
  cb : (Lib.cut p.data.toList [47]).2.1.length ≤ 200
  k2 : K ≤ 2
  k1 : 1 ≤ K
  le : ∀ k, k < K → (ofI (sumK k) 9).cmp r < 0
  ge : 0 ≤ (ofI (sumK K) 9).cmp r
theorem dec1 (v : Nat) (h : v < 10) : Lib.decDigits v = [UInt8.ofNat (48 + v)] := Lib.decDigits_one h
theorem par_0 : ParOk [48] false 0 1 false [48] [] := ⟨by decide, by decide, by decide, by decide, by decide, by decide, by decide, (by intro h; cases h), (by intro h; cases h), (by intro h; cases h), by decide, fun _ => rfl⟩
theorem getOk_0 : GetOk ⟨#[48]⟩ (ofI 0 1) := ⟨by decide, by decide, by decide, by have e : ofI 0 1 = ⟨false, 0, 1⟩ := rfl; rw [e]; show _ = bT (([] : List UInt8) ++ Lib.decDigits 0 ++ []); rw [dec1 0 (by omega)]; rfl, ⟨by decide, by decide, by decide⟩, ⟨false, 0, 1, false, [48], [], par_0, rfl⟩⟩
theorem par_1 : ParOk [49] false 1 1 false [49] [] := ⟨by decide, by decide, by decide, by decide, by decide, by decide, by decide, (by intro h; cases h), (by intro h; cases h), (by intro h; cases h), by decide, fun _ => rfl⟩
theorem getOk_1 : GetOk ⟨#[49]⟩ (ofI 1 1) := ⟨by decide, by decide, by decide, by have e : ofI 1 1 = ⟨false, 1, 1⟩ := rfl; rw [e]; show _ = bT (([] : List UInt8) ++ Lib.decDigits 1 ++ []); rw [dec1 1 (by omega)]; rfl, ⟨by decide, by decide, by decide⟩, ⟨false, 1, 1, false, [49], [], par_1, rfl⟩⟩
theorem par_23 : ParOk [50, 47, 51] false 2 3 true [50] [51] := ⟨by decide, by decide, by decide, by decide, by decide, by decide, by decide, (fun _ => by decide), (fun _ => by decide), (fun _ => by decide), by decide, (by intro h; cases h)⟩
theorem getOk_23 : GetOk ⟨#[50, 47, 51]⟩ (ofI 2 3) := ⟨by decide, by decide, by decide, by have e : ofI 2 3 = ⟨false, 2, 3⟩ := rfl; rw [e]; show _ = bT (([] : List UInt8) ++ Lib.decDigits 2 ++ 47 :: Lib.decDigits 3); rw [dec1 2 (by omega), dec1 3 (by omega)]; rfl, ⟨by decide, by decide, by decide⟩, ⟨false, 2, 3, true, [50], [51], par_23, rfl⟩⟩
theorem par_12 : ParOk [49, 47, 50] false 1 2 true [49] [50] := ⟨by decide, by decide, by decide, by decide, by decide, by decide, by decide, (fun _ => by decide), (fun _ => by decide), (fun _ => by decide), by decide, (by intro h; cases h)⟩
theorem getOk_12 : GetOk ⟨#[49, 47, 50]⟩ (ofI 1 2) := ⟨by decide, by decide, by decide, by have e : ofI 1 2 = ⟨false, 1, 2⟩ := rfl; rw [e]; show _ = bT (([] : List UInt8) ++ Lib.decDigits 1 ++ 47 :: Lib.decDigits 2); rw [dec1 1 (by omega), dec1 2 (by omega)]; rfl, ⟨by decide, by decide, by decide⟩, ⟨false, 1, 2, true, [49], [50], par_12, rfl⟩⟩
theorem par_59 : ParOk [53, 47, 57] false 5 9 true [53] [57] := ⟨by decide, by decide, by decide, by decide, by decide, by decide, by decide, (fun _ => by decide), (fun _ => by decide), (fun _ => by decide), by decide, (by intro h; cases h)⟩
theorem getOk_59 : GetOk ⟨#[53, 47, 57]⟩ (ofI 5 9) := ⟨by decide, by decide, by decide, by have e : ofI 5 9 = ⟨false, 5, 9⟩ := rfl; rw [e]; show _ = bT (([] : List UInt8) ++ Lib.decDigits 5 ++ 47 :: Lib.decDigits 9); rw [dec1 5 (by omega), dec1 9 (by omega)]; rfl, ⟨by decide, by decide, by decide⟩, ⟨false, 5, 9, true, [53], [57], par_59, rfl⟩⟩
theorem par_89 : ParOk [56, 47, 57] false 8 9 true [56] [57] := ⟨by decide, by decide, by decide, by decide, by decide, by decide, by decide, (fun _ => by decide), (fun _ => by decide), (fun _ => by decide), by decide, (by intro h; cases h)⟩
theorem getOk_89 : GetOk ⟨#[56, 47, 57]⟩ (ofI 8 9) := ⟨by decide, by decide, by decide, by have e : ofI 8 9 = ⟨false, 8, 9⟩ := rfl; rw [e]; show _ = bT (([] : List UInt8) ++ Lib.decDigits 8 ++ 47 :: Lib.decDigits 9); rw [dec1 8 (by omega), dec1 9 (by omega)]; rfl, ⟨by decide, by decide, by decide⟩, ⟨false, 8, 9, true, [56], [57], par_89, rfl⟩⟩
theorem ofI09 : ofI 0 9 = ofI 0 1 := rfl
theorem crOk_23 : CrOk ⟨#[50, 47, 51]⟩ (ofI 2 3) 2 := ⟨getOk_23, by decide, by decide, by decide, by decide, by decide, by decide, (fun k hk => by match k, hk with | 0, _ => exact (by decide) | 1, _ => exact (by decide)), by decide⟩
theorem crOk_12 : CrOk ⟨#[49, 47, 50]⟩ (ofI 1 2) 1 := ⟨getOk_12, by decide, by decide, by decide, by decide, by decide, by decide, (fun k hk => by match k, hk with | 0, _ => exact (by decide)), by decide⟩
theorem share_ok (k : Nat) (hk : k ≤ 2) : GetOk (bT (txR (ofI (sumK k) 9))) (ofI (sumK k) 9) := by
  match k, hk with
  | 0, _ => have h := getOk_0; rw [h.tx] at h; exact h
  | 1, _ => have h := getOk_59; rw [h.tx] at h; exact h
  | 2, _ => have h := getOk_89; rw [h.tx] at h; exact h
end Go.Proofs.YtpphnnijnnfngaaGreatDoor

/-
  The walk of the sky's Credible at the chapter's map.
-/
namespace Go.Proofs.YtpphnnijnnfngaaGreatDoor
open Go.RowKit Go.Sort Al Nat9

/-- A list of ints and OK are handed back. -/
def IntsT (l : List Int) (w : World) (e : Ending) (w' : World) : Prop := ∃ A c, e = .returned (.tuple #[.slice A l.length c, .int .i64 0]) ∧ Sl w' w'.heap.size 1 A l.length c (ints l) ∧ Below w.heap.size w w'
def totK : Nat → Int
  | 0 => 0
  | 1 => 5
  | 2 => 6
  | _ => 9
def TotRel (W : World) (t i : Value) (wr : World) : Prop := ∃ k : Nat, k ≤ 3 ∧ i = .int .i64 (k : Int) ∧ t = .int .i64 (totK k) ∧ W = wr
def CrRel (K : Nat) (w : World) (B9 : Nat) (W9 : World) (o s i : Value) (wr : World) : Prop := ∃ (k : Nat) (A : Option Addr) (c : Nat), k ≤ K ∧ i = .int .i64 (k : Int) ∧ s = .int .i64 ((sumK k : Nat) : Int) ∧ o = .slice A k c ∧ Hid (wr.ownsRow B9 3 1 (.slice A k c) k (ints ([0, 3, 2].take k))) ∧ Hid (Below B9 W9 wr) ∧ Hid (Below w.heap.size w wr)
instance inhW6 : Inhabited (Fin W6.length) := ⟨⟨0, by decide⟩⟩
/-- The cells, and as they are sorted. -/
def ord0 : Array (Fin W6.length) := #[⟨0, by decide⟩, ⟨2, by decide⟩, ⟨3, by decide⟩]
def ord1 : Array (Fin W6.length) := #[⟨0, by decide⟩, ⟨3, by decide⟩, ⟨2, by decide⟩]
theorem ins6 : Sort.insertionSort (ltOf (wLt W6)) ord0 0 3 = ord1 := by
  unfold Sort.insertionSort
  rw [insOuter, if_pos (by decide), insOuter, if_pos (by decide), insOuter, if_neg (by decide)]
  rfl
set_option maxRecDepth 100000 in
set_option maxHeartbeats 8000000 in
theorem credible_ (p : ByteArray) (r : Rat9) (K : Nat) (hc : CrOk p r K) (A B : Option Addr) (c d : Nat) (w : World) (hM : MxL w) (hw : Sl w w.heap.size 1 A 6 c (ints W6)) (hs : Sl w w.heap.size 1 B 3 d (ints [0, 2, 3])) :
    Calls Tryz.prog 14 #[.int .i64 1, .slice A 6 c, .slice B 3 d, .string p] w (IntsT (([0, 3, 2] : List Int).take K) w) := by
  obtain ⟨i0, hi, hz0, hz1, hz2⟩ := info_parts infoInt
  have HM := Lib.hid hM
  have HW := Lib.hid hw
  have HS := Lib.hid hs
  have HWG : Hid (∀ W, Below w.heap.size w W → Calls Tryz.prog 35 #[.int .i64 1, .slice A 6 c, .slice B 3 d] W fun e w' => e = .returned (.bool true) ∧ ∃ q, w' = W.drewN q) := fun W hW => by
    have h := weighed_ 1 (by decide) (by decide) W6 [0, 2, 3] A B c d W ((hw.below hW).more hW.size) ((hs.below hW).more hW.size)
    rw [show weighedB 1 W6 [0, 2, 3] = true from by decide] at h
    exact h
  have HRE : Hid (∀ W, MxL W → Calls Tryz.prog 36 #[.string p] W fun e w' => e = .returned (.int .i64 0) ∧ Below W.heap.size W w') := fun W hW => realOf_ p r W hW hc.g
  have HC0 : Hid (∀ W, MxL W → Calls Tryz.prog 7 #[.string p, .string ⟨#[48]⟩] W fun e w' => e = .returned (.tuple #[.int .i64 (r.cmp (ofI 0 1)), .int .i64 0]) ∧ Below W.heap.size W w') := fun W hW => Cmp_ p _ r _ hc.g getOk_0 W hW
  have HC1 : Hid (∀ W, MxL W → Calls Tryz.prog 7 #[.string p, .string ⟨#[49]⟩] W fun e w' => e = .returned (.tuple #[.int .i64 (r.cmp (ofI 1 1)), .int .i64 0]) ∧ Below W.heap.size W w') := fun W hW => Cmp_ p _ r _ hc.g getOk_1 W hW
  obtain ⟨x0, hx0⟩ : ∃ x, r.cmp (ofI 0 1) = x := ⟨_, rfl⟩
  obtain ⟨x1, hx1⟩ : ∃ x, r.cmp (ofI 1 1) = x := ⟨_, rfl⟩
  rw [hx0] at HC0
  rw [hx1] at HC1
  have l0 : ¬ x0 < 0 := by have := hc.lo; rw [hx0] at this; omega
  have l1 : ¬ 0 < x1 := by have := hc.hi; rw [hx1] at this; omega
  have HOF : Hid (∀ k, k ≤ 2 → ∀ W, Calls Tryz.prog 28 #[.int .i64 ((sumK k : Nat) : Int), .int .i64 9] W fun e w' => e = .returned (.tuple #[.string (bT (txR (ofI (sumK k) 9))), .int .i64 0]) ∧ Below W.heap.size W w') := fun k hk W => Of_ (sumK k) 9 (by match k, hk with | 0, _ => decide | 1, _ => decide | 2, _ => decide) (by decide) (by decide) W
  have HCK : Hid (∀ k, k ≤ 2 → ∀ W, MxL W → Calls Tryz.prog 7 #[.string (bT (txR (ofI (sumK k) 9))), .string p] W fun e w' => e = .returned (.tuple #[.int .i64 ((ofI (sumK k) 9).cmp r), .int .i64 0]) ∧ Below W.heap.size W w') := fun k hk W hW => Cmp_ _ p _ r (share_ok k hk) hc.g W hW
  obtain ⟨C1, hC1⟩ : ∃ x : ByteArray, (⟨(Lib.cut p.data.toList [47]).1.toArray⟩ : ByteArray) = x := ⟨_, rfl⟩
  obtain ⟨C2, hC2⟩ : ∃ x : ByteArray, (⟨(Lib.cut p.data.toList [47]).2.1.toArray⟩ : ByteArray) = x := ⟨_, rfl⟩
  have s1 : C1.size ≤ 200 := by rw [← hC1, ba_len]; exact hc.ca
  have s2 : C2.size ≤ 200 := by rw [← hC2, ba_len]; exact hc.cb
  have HCUT : Hid (∀ W, MxL W → Calls Tryz.prog 37 #[.string p, .string ⟨#[47]⟩] W fun e w' => ∃ b, e = .returned (.tuple #[.string C1, .string C2, .bool b]) ∧ ∃ n, w' = W.drewN n) := fun W ⟨mx, hW⟩ => (Tryz.strings_Cut p ⟨#[47]⟩ mx W (by have := hc.g.sz; omega) hW).mono fun e w' ⟨he, hw⟩ => ⟨(Lib.cut p.data.toList [47]).2.2, by rw [← hC1, ← hC2]; exact he, hw⟩
  have HCR := Lib.hid hc
  clear hM hw hs hc hx0 hx1 hC1 hC2
  go_enter Tryz.func14, Tryz.ntmps14
  go_wp2_with fail
  refine (skGrid_ 1 _).mono ?_
  rintro e w' ⟨rfl, rfl⟩
  rw [show inB 1 1 8 = true from by decide]
  obtain ⟨X, hX⟩ : ∃ X, w.alloc (.cells #[.slice A 6 c] 48) = X := ⟨_, rfl⟩
  have HX : Hid (Below w.heap.size w X) := by show Below _ _ _; rw [← hX]; exact (by repeat (first | exact Below.refl _ _ | assumption | refine below_drewN ?_ _ | refine Below.drew ?_ | refine Below.setCell ?_ (by first | omega | (simp; done) | (simp; omega)) _ | refine Below.alloc ?_ (by first | omega | (simp; done) | (simp; omega)) _))
  have x5 : X.cell? ⟨w.heap.size, 0, none⟩ = some (.slice A 6 c) := by rw [← hX]; simp [go_sem]
  have hXs : X.heap.size = w.heap.size + 1 := by rw [← hX]; simp
  have hX0 : w.heap.size < X.heap.size := by omega
  rw [hX]
  clear hX hXs
  go_wp2_with fail
  refine (HWG.out _ HX.out).mono ?_
  rintro e w1 ⟨rfl, q, rfl⟩
  obtain ⟨X1, hX1⟩ : ∃ W, X.drewN q = W := ⟨_, rfl⟩
  have HX1 : Hid (Below X.heap.size X X1) := by show Below _ _ _; rw [← hX1]; exact below_drewN (Below.refl _ _) q
  rw [hX1]
  clear hX1
  have hXl : w.heap.size ≤ X.heap.size := by omega
  go_wp2_with fail
  refine (HRE.out _ (HM.out.below (HX.out.trans (HX1.out.mono hXl)) (Nat.le_refl _))).mono ?_
  rintro e w2 ⟨rfl, hb⟩
  have H2 := Lib.hid (HX1.out.trans (hb.mono HX1.out.size))
  clear hb
  go_wp2_with fail
  refine (HC0.out _ (HM.out.below (HX.out.trans (H2.out.mono hXl)) (Nat.le_refl _))).mono ?_
  rintro e w3 ⟨rfl, hb⟩
  have H3 := Lib.hid (H2.out.trans (hb.mono H2.out.size))
  clear hb
  go_wp2_with fail
  refine (HC1.out _ (HM.out.below (HX.out.trans (H3.out.mono hXl)) (Nat.le_refl _))).mono ?_
  rintro e w4 ⟨rfl, hb⟩
  have H4 := Lib.hid (H3.out.trans (hb.mono H3.out.size))
  clear hb
  go_wp2_with fail
  refine (HCUT.out _ (HM.out.below (HX.out.trans (H4.out.mono hXl)) (Nat.le_refl _))).mono ?_
  rintro e w5 ⟨b5, rfl, q5, rfl⟩
  obtain ⟨X5, hX5⟩ : ∃ W, w4.drewN q5 = W := ⟨_, rfl⟩
  have H5 : Hid (Below X.heap.size X X5) := by show Below _ _ _; rw [← hX5]; exact below_drewN H4.out q5
  have HW5 : Hid (Below w.heap.size w X5) := HX.out.trans (H5.out.mono hXl)
  have y5 : X5.cell? ⟨w.heap.size, 0, none⟩ = some (.slice A 6 c) := (H5.out.cell (p := ⟨_, 0, none⟩) hX0).trans x5
  have hz5 : w.heap.size < X5.heap.size := Nat.lt_of_lt_of_le hX0 H5.out.size
  rw [hX5]
  clear hX5 x5
  obtain ⟨wb, wo, rfl, hwb, hwc⟩ := (HW.out.below HW5.out).at_ (by decide)
  obtain ⟨sb, so, rfl, hsb, hsc⟩ := (HS.out.below HW5.out).at_ (by decide)
  have hcap1 : 6 ≤ c := HW.out.cap
  have hcap2 : 3 ≤ d := HS.out.cap
  have a0 : X5.cell? ⟨wb, wo, none⟩ = some (.int .i64 5) := hwc 0 _ rfl
  have a2 : X5.cell? ⟨wb, wo + 2, none⟩ = some (.int .i64 1) := hwc 2 _ rfl
  have a3 : X5.cell? ⟨wb, wo + 3, none⟩ = some (.int .i64 3) := hwc 3 _ rfl
  have d0 : X5.cell? ⟨sb, so, none⟩ = some (.int .i64 0) := hsc 0 _ rfl
  have d1 : X5.cell? ⟨sb, so + 1, none⟩ = some (.int .i64 2) := hsc 1 _ rfl
  have d2 : X5.cell? ⟨sb, so + 2, none⟩ = some (.int .i64 3) := hsc 2 _ rfl
  have HWC := Lib.hid hwc
  have HSC := Lib.hid hsc
  clear hwc hsc
  go_wp2_with fail
  go_loopw [18, 79] (fun t i wr => TotRel X5 t i wr) (fun _ i _ => (3 - intOf i).toNat)
  case atStart => exact ⟨0, by omega, by first | rfl | go_num, rfl, rfl⟩
  case round =>
    obtain ⟨k, hk, rfl, rfl, rfl⟩ := hrel
    match k, hk with
    | 0, _ =>
      simp only [totK]
      go_wp2_with fail
      go_roundw
      case rel => exact ⟨1, by omega, by first | rfl | go_num, rfl, rfl⟩
      case measure => simp [intOf]
    | 1, _ =>
      simp only [totK]
      go_wp2_with fail
      go_roundw
      case rel => exact ⟨2, by omega, by first | rfl | go_num, rfl, rfl⟩
      case measure => simp [intOf]
    | 2, _ =>
      simp only [totK]
      go_wp2_with fail
      go_roundw
      case rel => exact ⟨3, by omega, by first | rfl | go_num, rfl, rfl⟩
      case measure => simp [intOf]
    | 3, _ =>
      simp only [totK]
      go_wp2_with fail
      refine (Tryz.slices_Clone_int sb so 3 d [0, 2, 3] X5 (by decide) (by decide) (fun j hj => ?_)).mono ?_
      · match j, hj with
        | 0, _ => exact d0
        | 1, _ => exact d1
        | 2, _ => exact d2
      rintro e w8 ⟨v8, rfl, hown, hne, hb8⟩
      rcases hown.2 with ⟨h1, -⟩ | ⟨g, cap, cur, rfl, hg, hh, hg3, hgm, hgs, hgt⟩
      · exact absurd h1 hne
      have HB8 := Lib.hid hb8
      have hgl : g < w8.heap.size := (Array.getElem?_eq_some_iff.1 hh).1
      have hgw : w.heap.size < g := by omega
      have HH : Hid (Holds eFin w8 g 0 ord0) := fun j hj => by
        have hj3 : j < 3 := hj
        refine ⟨?_, hown.frozenAt _⟩
        match j, hj3 with
        | 0, _ => exact hown.cellAt 0 (by decide)
        | 1, _ => exact hown.cellAt 1 (by decide)
        | 2, _ => exact hown.cellAt 2 (by decide)
      have b8 : w8.cell? ⟨w.heap.size, 0, none⟩ = some (.slice (some ⟨wb, wo, none⟩) 6 c) := (hb8.cell (p := ⟨_, 0, none⟩) hz5).trans y5
      have HSW : Hid (Sl w8 g 1 (some ⟨wb, wo, none⟩) 6 c (ints W6)) := (((HW.out.below HW5.out).more HW5.out.size).below hb8).more hg
      have HST := Lib.hid (sortS_ W6 (some ⟨wb, wo, none⟩) c w.heap.size g 0 cap ord0 (by decide) w8 b8 HSW.out hgw hgl (by decide) HH.out)
      clear hown hne hb8 hh hgt hgs
      go_wp2_with fail
      refine HST.out.mono ?_
      rintro e w9 ⟨rfl, n9, hw9⟩
      rw [show (ord0 : Array (Fin W6.length)).size = 3 from rfl, ins6] at hw9
      have hP := holds_putRow eFin w8 g 0 ord0 ord1 HH.out rfl
      have H89 : Hid (Below g w8 w9) := by show Below _ _ _; rw [hw9]; exact below_drewN (below_putRow _ _ _ _ _ _ (Nat.le_refl _)) n9
      have z0 : w9.cell? ⟨g, 0, none⟩ = some (.int .i64 0) := by rw [hw9]; exact (hP 0 (by decide)).1
      have z1 : w9.cell? ⟨g, 1, none⟩ = some (.int .i64 3) := by rw [hw9]; exact (hP 1 (by decide)).1
      have z2 : w9.cell? ⟨g, 2, none⟩ = some (.int .i64 2) := by rw [hw9]; exact (hP 2 (by decide)).1
      have y9 := (H89.out.cell (p := ⟨w.heap.size, 0, none⟩) hgw).trans b8
      have hg9 : g < w9.heap.size := Nat.lt_of_lt_of_le hgl H89.out.size
      have hw9l : w.heap.size < w9.heap.size := by omega
      have hwg : wb < g := by omega
      have hwb9 : wb < w9.heap.size := by omega
      have a09 := (H89.out.cell (p := ⟨wb, wo, none⟩) hwg).trans ((HB8.out.cell (p := ⟨wb, wo, none⟩) (by show wb < _; omega)).trans a0)
      have a39 := (H89.out.cell (p := ⟨wb, wo + 3, none⟩) hwg).trans ((HB8.out.cell (p := ⟨wb, wo + 3, none⟩) (by show wb < _; omega)).trans a3)
      have HBw9 : Hid (Below w.heap.size w w9) := HW5.out.trans ((HB8.out.mono HW5.out.size).trans (H89.out.mono (by omega)))
      clear hw9 hP b8 a0 a2 a3 d0 d1 d2 y5
      go_wp2_with fail
      go_loopw [22, 23, 97] (fun o s i wr => CrRel K w w9.heap.size w9 o s i wr) (fun _ _ i _ => (3 - intOf i).toNat)
      case atStart => exact ⟨0, none, 0, Nat.zero_le _, by first | rfl | go_num, by first | rfl | go_num, rfl, Lib.hid (World.ownsRow_nil _ _ _ _), Lib.hid (Below.refl _ _), HBw9⟩
      case round =>
        obtain ⟨k, A2, c2, hkK, rfl, rfl, rfl, HO, HB9, HBw⟩ := hrel
        have hk2 : k ≤ 2 := Nat.le_trans hkK HCR.out.k2
        have hz9 := HB9.out.size
        have HMr := Lib.hid (HM.out.below HBw.out (Nat.le_refl _))
        have e1 := (HB9.out.cell (p := ⟨w.heap.size, 0, none⟩) hw9l).trans y9
        have o0 := (HB9.out.cell (p := ⟨g, 0, none⟩) hg9).trans z0
        have o1 := (HB9.out.cell (p := ⟨g, 1, none⟩) hg9).trans z1
        have o2 := (HB9.out.cell (p := ⟨g, 2, none⟩) hg9).trans z2
        by_cases hlt : k < K
        · have hneg : (ofI (sumK k) 9).cmp r < 0 := HCR.out.le k hlt
          obtain ⟨cm, hcm⟩ : ∃ x, (ofI (sumK k) 9).cmp r = x := ⟨_, rfl⟩
          rw [hcm] at hneg
          have hneg2 : ¬ 0 ≤ cm := by omega
          have HOk := Lib.hid (HOF.out k hk2)
          have HCk := HCK.out k hk2
          rw [hcm] at HCk
          have HCkk := Lib.hid HCk
          clear HCk hcm
          have hk1 : k < 2 := by have := HCR.out.k2; omega
          obtain rfl | rfl : k = 0 ∨ k = 1 := by omega
          · have es : ((sumK 0 : Nat) : Int) = 0 := rfl
            rw [es] at HOk ⊢
            clear es
            go_wp2_with fail
            refine (HOk.out _).mono ?_
            rintro e w11 ⟨rfl, hb⟩
            have H11 := Lib.hid hb
            have hz11 := hb.size
            clear hb
            go_wp2_with fail
            refine (HCkk.out _ (HMr.out.below H11.out (Nat.le_refl _))).mono ?_
            rintro e w12 ⟨rfl, hb⟩
            have H12 := Lib.hid (H11.out.trans (hb.mono H11.out.size))
            have hz12 := H12.out.size
            clear hb
            go_wp2_with (at_builtin; go_must (refine wpList_append_lies _ rfl _ _ 48 rfl w9.heap.size 3 i0 (.int .i64 0) 1 8 Tryz.underlying48 hi hz0 hz1 hz2 rfl (by decide) (.slice A2 0 c2) 0 _ rfl (own_below HO.out (Nat.le_refl _) (H12.out.alloc H12.out.size _)) _ 1 1 [.int .i64 0] rfl rfl (World.news_of_block (heap_alloc_new w12 _)) (by intro u hu; rw [List.mem_singleton.1 hu]; rfl) (by decide) (by unfold maxLen; omega) (by omega) (by simp; omega) _ rfl ?_); intro g13 cap13 w13 hown13 hg13 hat13 hlt13; have HB13 : Below w9.heap.size w9 w13 := (HB9.out.trans ((H12.out.mono hz9).alloc (by omega) _)).grown hg13 (by simp; omega) (fun g h => (own_lt HO.out h).1); have p1 := (HB13.cell (p := ⟨w.heap.size, 0, none⟩) hw9l).trans y9; have p2 := (HB13.cell (p := ⟨wb, wo, none⟩) hwb9).trans a09; have HB13H := Lib.hid HB13; clear HB13)
            go_roundw
            case rel => exact ⟨1, some ⟨g13, 0, none⟩, cap13, by omega, by first | rfl | go_num, by first | rfl | (simp [sumK]; done) | go_num, rfl, Lib.hid hown13, HB13H, Lib.hid (HBw9.out.trans (HB13H.out.mono (Nat.le_of_lt hw9l)))⟩
            case measure => simp [intOf]
          · have es : ((sumK 1 : Nat) : Int) = 5 := rfl
            rw [es] at HOk ⊢
            clear es
            go_wp2_with fail
            refine (HOk.out _).mono ?_
            rintro e w11 ⟨rfl, hb⟩
            have H11 := Lib.hid hb
            have hz11 := hb.size
            clear hb
            go_wp2_with fail
            refine (HCkk.out _ (HMr.out.below H11.out (Nat.le_refl _))).mono ?_
            rintro e w12 ⟨rfl, hb⟩
            have H12 := Lib.hid (H11.out.trans (hb.mono H11.out.size))
            have hz12 := H12.out.size
            clear hb
            go_wp2_with (at_builtin; go_must (refine wpList_append_lies _ rfl _ _ 48 rfl w9.heap.size 3 i0 (.int .i64 0) 1 8 Tryz.underlying48 hi hz0 hz1 hz2 rfl (by decide) (.slice A2 1 c2) 1 _ rfl (own_below HO.out (Nat.le_refl _) (H12.out.alloc H12.out.size _)) _ 1 1 [.int .i64 3] rfl rfl (World.news_of_block (heap_alloc_new w12 _)) (by intro u hu; rw [List.mem_singleton.1 hu]; rfl) (by decide) (by unfold maxLen; omega) (by omega) (by simp; omega) _ rfl ?_); intro g13 cap13 w13 hown13 hg13 hat13 hlt13; have HB13 : Below w9.heap.size w9 w13 := (HB9.out.trans ((H12.out.mono hz9).alloc (by omega) _)).grown hg13 (by simp; omega) (fun g h => (own_lt HO.out h).1); have p1 := (HB13.cell (p := ⟨w.heap.size, 0, none⟩) hw9l).trans y9; have p2 := (HB13.cell (p := ⟨wb, wo + 3, none⟩) hwb9).trans a39; have HB13H := Lib.hid HB13; clear HB13)
            go_roundw
            case rel => exact ⟨2, some ⟨g13, 0, none⟩, cap13, by omega, by first | rfl | go_num, by first | rfl | (simp [sumK]; done) | go_num, rfl, Lib.hid hown13, HB13H, Lib.hid (HBw9.out.trans (HB13H.out.mono (Nat.le_of_lt hw9l)))⟩
            case measure => simp [intOf]
        · obtain rfl : k = K := by omega
          have hge : 0 ≤ (ofI (sumK k) 9).cmp r := HCR.out.ge
          have hkp : 1 ≤ k := HCR.out.k1
          obtain ⟨cm, hcm⟩ : ∃ x, (ofI (sumK k) 9).cmp r = x := ⟨_, rfl⟩
          rw [hcm] at hge
          have HOk := Lib.hid (HOF.out k hk2)
          have HCk := HCK.out k hk2
          rw [hcm] at HCk
          have HCkk := Lib.hid HCk
          clear HCk hcm
          have o3 : wr.cell? ⟨g, k, none⟩ = some (.int .i64 (cellK k)) := by
            obtain rfl | rfl : k = 1 ∨ k = 2 := by omega
            · exact o1
            · exact o2
          have hk3 : (k : Int) < 3 := by omega
          have hkc : (k : Int) < (cap : Int) := by omega
          clear o0 o1 o2
          go_wp2_with fail
          refine (HOk.out _).mono ?_
          rintro e w11 ⟨rfl, hb⟩
          have H11 := Lib.hid hb
          clear hb
          go_wp2_with fail
          refine (HCkk.out _ (HMr.out.below H11.out (Nat.le_refl _))).mono ?_
          rintro e w12 ⟨rfl, hb⟩
          have H12 := Lib.hid (H11.out.trans (hb.mono H11.out.size))
          clear hb
          have hz12 := H12.out.size
          go_wp2_with fail
          rcases HO.out.2 with ⟨-, h0⟩ | ⟨gg, cp, cur, hv, hgb, hh, hnc, hcm2, hcs, hct⟩
          · omega
          cases hv
          have hgs : gg < wr.heap.size := (Array.getElem?_eq_some_iff.1 hh).1
          have hzl : (([0, 3, 2] : List Int).take k).length = k := by rw [List.length_take]; simp; omega
          have hzs : ((([0, 3, 2] : List Int).take k).mergeSort fun x y => decide (x ≤ y)) = ([0, 3, 2] : List Int).take k := by
            obtain rfl | rfl : k = 1 ∨ k = 2 := by omega
            · exact List.mergeSort_of_pairwise (by simp)
            · exact List.mergeSort_of_pairwise (by simp)
          obtain ⟨zs, hzz⟩ : ∃ zs, ([0, 3, 2] : List Int).take k = zs := ⟨_, rfl⟩
          rw [hzz] at hzs hzl HO ⊢
          have hHo : Holds (Value.int .i64) w12 gg 0 zs.toArray := fun j hj => by
            have hj2 : j < zs.length := by simpa using hj
            have h1 := (own_below HO.out (Nat.le_refl _) H12.out).cellAt j (by omega)
            refine ⟨?_, (own_below HO.out (Nat.le_refl _) H12.out).frozenAt _⟩
            rw [Nat.zero_add, h1, ints_at hj2]
            congr 2
            simp [hj2]
          have HSO := Tryz.slices_Sort_int gg 0 c2 zs w12 hHo (by omega) (by rw [hzl]; omega)
          rw [hzs, hzl] at HSO
          refine HSO.mono ?_
          rintro e w13 ⟨rfl, n13, os, hw13⟩
          have hHo2 : Holds (Value.int .i64) (Sort.ahead w12 n13) gg 0 zs.toArray := hHo
          rw [putRow_self _ _ _ _ _ hHo2] at hw13
          have HB13 : Hid (Below w12.heap.size w12 w13) := by
            show Below _ _ _
            rw [hw13]
            exact (show Below w12.heap.size w12 (Sort.ahead w12 n13) from ⟨rfl, rfl, rfl, Nat.le_refl _, fun _ _ => rfl⟩).trans (below_grow _ _ _ (Nat.le_refl _))
          have HO13 := Lib.hid (own_below HO.out (Nat.le_refl _) (H12.out.trans (HB13.out.mono H12.out.size)))
          have HBF := Lib.hid (HBw.out.trans ((H12.out.trans (HB13.out.mono H12.out.size)).mono (by omega)))
          have HZL := Lib.hid hzl
          have HZZ := Lib.hid hzz
          clear hw13 hHo hHo2 HSO hzs hzz hzl hct hcs
          go_wp2_with fail
          go_ret2
          refine ⟨some ⟨gg, 0, none⟩, c2, by rw [HZZ.out, HZL.out]; rfl, ?_, HBF.out⟩
          have h := Sl.of_own HO13.out
          rw [HZZ.out, HZL.out]
          exact h
end Go.Proofs.YtpphnnijnnfngaaGreatDoor
