/-
  The walks of CheckRoll and CheckNotice, of the program.
-/
import Derived.Test.YtohfofecbdfkgaaGreatDoorU06
namespace Go.Proofs.YtohfofecbdfkgaaGreatDoor
open Go.RowKit Al

theorem rollValid_is (ks : List (Int × Int)) (q : Int) (A : Option Addr) (c : Nat) (w : World) (b : Bool) (hb : rollOk ks q = b) (h : Rin w ks A c) :
    Calls Tryz.prog 94 #[rollV ks A c q] w fun e w' => e = .returned (.bool b) ∧ Below w.heap.size w w' := hb ▸ rollValid_ ks q A c w h

set_option maxRecDepth 100000 in
theorem CheckRoll_ (ks : List (Int × Int)) (q : Int) (A : Option Addr) (c : Nat) (w : World) (h : Rin w ks A c) :
    Calls Tryz.prog 52 #[rollV ks A c q] w fun e w' => e = .returned (.int .i64 (errA (rollOk ks q) 104)) ∧ Below w.heap.size w w' := by
  have HR := Lib.hid h
  clear h
  by_cases ho : rollOk ks q = true
  · have HO := Lib.hid ho
    clear ho
    go_enter Tryz.func52, Tryz.ntmps52
    go_wp2_with fail
    refine (rollValid_is ks q A c _ true HO.out (HR.out.below (by (repeat (first | exact Below.refl _ _ | assumption | refine below_drewN ?_ _ | refine Below.drew ?_ | refine Below.setCell ?_ (by first | omega | (simp; done) | (simp; omega)) _ | refine Below.alloc ?_ (by first | omega | (simp; done) | (simp; omega)) _))))).mono ?_
    rintro e w1 ⟨rfl, hb⟩
    obtain ⟨hcw1, hfw1⟩ := bcell hb
    have Hw1 := Lib.hid ((show Below w.heap.size w _ from (by repeat (first | exact Below.refl _ _ | assumption | refine below_drewN ?_ _ | refine Below.drew ?_ | refine Below.setCell ?_ (by first | omega | (simp; done) | (simp; omega)) _ | refine Below.alloc ?_ (by first | omega | (simp; done) | (simp; omega)) _))).trans (hb.mono (by first | omega | (simp; done) | (simp; omega))))
    have hzw1 := hb.size
    try simp at hzw1
    clear hb
    go_wp2_with fail
    go_ret
    exact ⟨ret_int (errA_t HO.out).symm, Hw1.out⟩
  · have ho' : rollOk ks q = false := by simpa using ho
    have HO := Lib.hid ho'
    clear ho ho'
    go_enter Tryz.func52, Tryz.ntmps52
    go_wp2_with fail
    refine (rollValid_is ks q A c _ false HO.out (HR.out.below (by (repeat (first | exact Below.refl _ _ | assumption | refine below_drewN ?_ _ | refine Below.drew ?_ | refine Below.setCell ?_ (by first | omega | (simp; done) | (simp; omega)) _ | refine Below.alloc ?_ (by first | omega | (simp; done) | (simp; omega)) _))))).mono ?_
    rintro e w1 ⟨rfl, hb⟩
    obtain ⟨hcw1, hfw1⟩ := bcell hb
    have Hw1 := Lib.hid ((show Below w.heap.size w _ from (by repeat (first | exact Below.refl _ _ | assumption | refine below_drewN ?_ _ | refine Below.drew ?_ | refine Below.setCell ?_ (by first | omega | (simp; done) | (simp; omega)) _ | refine Below.alloc ?_ (by first | omega | (simp; done) | (simp; omega)) _))).trans (hb.mono (by first | omega | (simp; done) | (simp; omega))))
    have hzw1 := hb.size
    try simp at hzw1
    clear hb
    go_wp2_with fail
    go_ret
    exact ⟨ret_int (errA_f HO.out).symm, Hw1.out⟩
theorem CheckRoll_is (ks : List (Int × Int)) (q : Int) (A : Option Addr) (c : Nat) (w : World) (v : Int) (hv : errA (rollOk ks q) 104 = v) (h : Rin w ks A c) :
    Calls Tryz.prog 52 #[rollV ks A c q] w fun e w' => e = .returned (.int .i64 v) ∧ Below w.heap.size w w' := hv ▸ CheckRoll_ ks q A c w h

/-- What CheckNotice gives. -/
def checkE (ks : List (Int × Int)) (q : Int) (n : Ntc) : Int := if rollOk ks q then noticeE ks q n else 104
theorem checkE_t {ks : List (Int × Int)} {q : Int} {n : Ntc} (h : rollOk ks q = true) : checkE ks q n = noticeE ks q n := by unfold checkE; rw [h]; rfl
theorem checkE_f {ks : List (Int × Int)} {q : Int} {n : Ntc} (h : rollOk ks q = false) : checkE ks q n = 104 := by unfold checkE; rw [h]; rfl

set_option maxRecDepth 100000 in
set_option maxHeartbeats 1000000 in
theorem CheckNotice_ (ks : List (Int × Int)) (q : Int) (K : Option Addr) (kc : Nat) (n : Ntc) (A : Option Addr) (c : Nat) (S : Option Addr) (sc : Nat) (w : World) (hr : Rin w ks K kc) (hn : NIn w n A c S sc) (ht : Rdy w) :
    Calls Tryz.prog 74 #[rollV ks K kc q, n.val A c S sc] w fun e w' => e = .returned (.int .i64 (checkE ks q n)) ∧ Below w.heap.size w w' := by
  have HR := Lib.hid hr
  have HN := Lib.hid hn
  have HT := Lib.hid ht
  clear hr hn ht
  by_cases ho : rollOk ks q = true
  · have HO := Lib.hid ho
    clear ho
    go_enter Tryz.func74, Tryz.ntmps74
    go_wp2_with fail
    refine (CheckRoll_is ks q K kc _ 0 (errA_t HO.out) (HR.out.below (by (repeat (first | exact Below.refl _ _ | assumption | refine below_drewN ?_ _ | refine Below.drew ?_ | refine Below.setCell ?_ (by first | omega | (simp; done) | (simp; omega)) _ | refine Below.alloc ?_ (by first | omega | (simp; done) | (simp; omega)) _))))).mono ?_
    rintro e w1 ⟨rfl, hb⟩
    obtain ⟨hcw1, hfw1⟩ := bcell hb
    have Hw1 := Lib.hid ((show Below w.heap.size w _ from (by repeat (first | exact Below.refl _ _ | assumption | refine below_drewN ?_ _ | refine Below.drew ?_ | refine Below.setCell ?_ (by first | omega | (simp; done) | (simp; omega)) _ | refine Below.alloc ?_ (by first | omega | (simp; done) | (simp; omega)) _))).trans (hb.mono (by first | omega | (simp; done) | (simp; omega))))
    have hzw1 := hb.size
    try simp at hzw1
    clear hb
    have hz3 : w.heap.size + 1 < w1.heap.size := by omega
    have hz4 : w.heap.size < w1.heap.size := by omega
    go_wp2_with fail
    refine (rollCheck_ ks q K kc n A c S sc _ (HR.out.below Hw1.out) HO.out (HN.out.below Hw1.out) (HT.out.below Hw1.out)).mono ?_
    rintro e w2 ⟨rfl, hb⟩
    obtain ⟨hcw2, hfw2⟩ := bcell hb
    have Hw2 := Lib.hid ((show Below w.heap.size w _ from (by repeat (first | exact Below.refl _ _ | exact (Hw1).out | refine below_drewN ?_ _ | refine Below.drew ?_ | refine Below.setCell ?_ (by first | omega | (simp; done) | (simp; omega)) _ | refine Below.alloc ?_ (by first | omega | (simp; done) | (simp; omega)) _))).trans (hb.mono (by first | omega | (simp; done) | (simp; omega))))
    have hzw2 := hb.size
    try simp at hzw2
    clear hb
    go_wp2_with fail
    go_ret
    exact ⟨ret_int (checkE_t HO.out).symm, Hw2.out⟩
  · have ho' : rollOk ks q = false := by simpa using ho
    have HO := Lib.hid ho'
    clear ho ho'
    go_enter Tryz.func74, Tryz.ntmps74
    go_wp2_with fail
    refine (CheckRoll_is ks q K kc _ 104 (errA_f HO.out) (HR.out.below (by (repeat (first | exact Below.refl _ _ | assumption | refine below_drewN ?_ _ | refine Below.drew ?_ | refine Below.setCell ?_ (by first | omega | (simp; done) | (simp; omega)) _ | refine Below.alloc ?_ (by first | omega | (simp; done) | (simp; omega)) _))))).mono ?_
    rintro e w1 ⟨rfl, hb⟩
    obtain ⟨hcw1, hfw1⟩ := bcell hb
    have Hw1 := Lib.hid ((show Below w.heap.size w _ from (by repeat (first | exact Below.refl _ _ | assumption | refine below_drewN ?_ _ | refine Below.drew ?_ | refine Below.setCell ?_ (by first | omega | (simp; done) | (simp; omega)) _ | refine Below.alloc ?_ (by first | omega | (simp; done) | (simp; omega)) _))).trans (hb.mono (by first | omega | (simp; done) | (simp; omega))))
    have hzw1 := hb.size
    try simp at hzw1
    clear hb
    have hz3 : w.heap.size + 1 < w1.heap.size := by omega
    have hz4 : w.heap.size < w1.heap.size := by omega
    go_wp2_with fail
    go_ret
    exact ⟨ret_int (checkE_f HO.out).symm, Hw1.out⟩
end Go.Proofs.YtohfofecbdfkgaaGreatDoor

/-
  The walk of the specification's CheckRoll.
-/
namespace Go.Proofs.YtohfofecbdfkgaaGreatDoor
open Go.RowKit Al

/-- What CheckRoll asks of the numbers alone. -/
def preR (ks : List (Int × Int)) (q : Int) : Bool := inB ks.length 1 8 && inB q 1 ks.length
def crB (ks : List (Int × Int)) (q : Int) (k j : Nat) : Bool := (preR ks q && keysUp ks k) && (match ks[k]? with | some x => plaus x.1 x.2 && !modIn x.1 (ks.take j) | none => true)
theorem crB_at {ks : List (Int × Int)} {q : Int} {k j : Nat} (h : k < ks.length) : crB ks q k j = ((preR ks q && keysUp ks k) && (plaus ks[k].1 ks[k].2 && !modIn ks[k].1 (ks.take j))) := by
  unfold crB; rw [List.getElem?_eq_getElem h]
def CrRel (ks : List (Int × Int)) (q : Int) (s i : Value) : Prop := ∃ (k : Nat) (b : Bool), k ≤ ks.length ∧ s = .bool b ∧ i = .int .i64 k ∧ Hid (b = (preR ks q && keysUp ks k))
def CrIn (ks : List (Int × Int)) (q : Int) (k : Nat) (s i : Value) : Prop := ∃ (j : Nat) (b : Bool), j ≤ k ∧ s = .bool b ∧ i = .int .i64 j ∧ Hid (b = crB ks q k j)
theorem cr_zero {ks : List (Int × Int)} {q : Int} {k : Nat} {b : Bool} (h : k < ks.length) (hb : b = (preR ks q && keysUp ks k)) : (b && plaus ks[k].1 ks[k].2) = crB ks q k 0 := by
  rw [crB_at h, hb, List.take_zero]
  unfold modIn
  simp
theorem cr_hit {ks : List (Int × Int)} {q : Int} {k j : Nat} {b : Bool} (h : j < ks.length) {hk : k < ks.length} (hm : (ks[j].1 == ks[k].1) = true) (_hb : b = crB ks q k j) : crB ks q k (j + 1) = false := by
  rw [crB_at hk, modIn_snoc h, hm]; simp
theorem cr_miss {ks : List (Int × Int)} {q : Int} {k j : Nat} {b : Bool} (h : j < ks.length) {hk : k < ks.length} (hm : (ks[j].1 == ks[k].1) = false) (hb : b = crB ks q k j) : crB ks q k (j + 1) = b := by
  rw [hb, crB_at hk, crB_at hk, modIn_snoc h, hm, Bool.or_false]
theorem cr_no {ks : List (Int × Int)} {q : Int} {k j : Nat} (h : j < ks.length) (hb : false = crB ks q k j) : crB ks q k (j + 1) = false := by
  by_cases hk : k < ks.length
  · have := hb.symm
    rw [crB_at hk] at this ⊢
    rw [modIn_snoc h]
    revert this
    generalize preR ks q = a
    generalize keysUp ks k = b
    generalize plaus ks[k].1 ks[k].2 = d
    generalize modIn ks[k].1 (ks.take j) = f
    generalize (ks[j].1 == ks[k].1) = g
    revert a b d f g
    decide
  · rw [hb]
    unfold crB
    rw [List.getElem?_eq_none (by omega)]
theorem cr_end {ks : List (Int × Int)} {q : Int} {k : Nat} {b : Bool} (h : k < ks.length) (hb : b = crB ks q k k) : b = (preR ks q && keysUp ks (k + 1)) := by
  rw [hb, crB_at h, keysUp, keyOk_at h, Bool.and_assoc]
theorem cr_all {ks : List (Int × Int)} {q : Int} {b : Bool} (hb : b = (preR ks q && keysUp ks ks.length)) : rollOk ks q = b := by
  rw [hb, Bool.and_comm]; rfl

set_option maxRecDepth 100000 in
set_option maxHeartbeats 4000000 in
theorem rCheckRoll_ (ks : List (Int × Int)) (q : Int) (A : Option Addr) (c : Nat) (w : World) (h : Rin w ks A c) :
    Calls Tryz.prog 100 #[rollV ks A c q] w fun e w' => e = .returned (.int .i64 (errA (rollOk ks q) 104)) ∧ Below w.heap.size w w' := by
  have hlen : ks.length ≤ maxLen := Nat.le_trans h.cap h.max
  unfold maxLen at hlen
  go_enter Tryz.func100, Tryz.ntmps100
  go_upto_region 1 with fail
  go_cut [3] (fun s wx => s = .bool (preR ks q) ∧ wx = w.alloc (.cells #[.slice A ks.length c, .int .i64 q] 24))
  case first =>
    go_wp2_with (go_at_call 76; refine (In_ _ _ _ _).mono ?_; rintro e w' ⟨rfl, rfl⟩)
    all_goals
      go_meet
      case rel => exact ⟨by simp [preR, *], rfl⟩
  case rest =>
    obtain ⟨rfl, rfl⟩ := hcut
    go_wp2
    go_loopw [3, 4] (fun s i wr => CrRel ks q s i ∧ Below (w.heap.size + 1) (w.alloc (.cells #[.slice A ks.length c, .int .i64 q] 24)) wr) (fun _ i _ => ks.length - (intOf i).toNat)
    case atStart => exact ⟨⟨0, _, Nat.zero_le _, rfl, rfl, by show _ = _; rw [keysUp, Bool.and_true]⟩, by (repeat (first | exact Below.refl _ _ | assumption | refine below_drewN ?_ _ | refine Below.drew ?_ | refine Below.setCell ?_ (by first | omega | (simp; done) | (simp; omega)) _ | refine Below.alloc ?_ (by first | omega | (simp; done) | (simp; omega)) _))⟩
    case round =>
      obtain ⟨⟨k, b, hk, rfl, rfl, hp⟩, hbw⟩ := hrel
      obtain ⟨hcw, hfw⟩ := bcell hbw
      have HB := Lib.hid hbw
      have hz := hbw.size
      simp at hz
      have hWB := Lib.hid (((Below.refl _ _).alloc (Nat.le_refl _) _).trans (hbw.mono (Nat.le_succ _)))
      clear hbw
      by_cases hlt : k < ks.length
      · obtain ⟨kb, ko, rfl, hkb, hk1, hk2⟩ := (h.below hWB.out).key_at hlt
        have hlt' : (k : Int) < (ks.length : Int) := by omega
        cases b with
        | true =>
          go_wp2_with fail
          refine (rplausible_is _ _ _ rfl _).mono ?_
          rintro e w1 ⟨rfl, hb⟩
          obtain ⟨hcw1, hfw1⟩ := bcell hb
          have Hw1 := Lib.hid ((HB).out.trans (Below.trans (by (repeat (first | exact Below.refl _ _ | assumption | refine below_drewN ?_ _ | refine Below.drew ?_ | refine Below.setCell ?_ (by first | omega | (simp; done) | (simp; omega)) _ | refine Below.alloc ?_ (by first | omega | (simp; done) | (simp; omega)) _))) (hb.mono (by first | omega | (simp; done) | (simp; omega)))))
          have hzw1 := hb.size
          try simp at hzw1
          clear hb
          have HB1 := Hw1
          have HS0 := Lib.hid (cr_zero hlt hp.out)
          clear hcw1 hfw1 Hw1
          go_wp2_with fail
          go_loopw [3, 5] (fun s j wy => CrIn ks q k s j ∧ Below (w.heap.size + 1) (w.alloc (.cells #[.slice (some ⟨kb, ko, none⟩) ks.length c, .int .i64 q] 24)) wy) (fun _ j _ => k - (intOf j).toNat)
          case atStart => exact ⟨⟨0, _, Nat.zero_le _, rfl, rfl, HS0.out⟩, HB1.out⟩
          case round =>
            obtain ⟨⟨j, bj, hj, rfl, rfl, hpj⟩, hby⟩ := hrel
            obtain ⟨hcy, hfy⟩ := bcell hby
            have HBy := Lib.hid hby
            have hzy := hby.size
            simp at hzy
            have hWy := Lib.hid (((Below.refl _ _).alloc (Nat.le_refl _) _).trans (hby.mono (Nat.le_succ _)))
            clear hby
            obtain ⟨_, _, he, hkb1, hk1, hk2⟩ := (h.below hWy.out).key_at hlt
            cases he
            by_cases hjk : j < k
            · have hjk' : (j : Int) < (k : Int) := by omega
              have hjl : j < ks.length := by omega
              have hjl' : (j : Int) < (ks.length : Int) := by omega
              obtain ⟨_, _, he, hkb2, hj1, hj2⟩ := (h.below hWy.out).key_at hjl
              cases he
              cases bj with
              | true =>
                by_cases hm : (ks[j].1 == ks[k].1) = true
                · have hmn : (ks[j].1 != ks[k].1) = false := by rw [bne, hm]; rfl
                  have HX := Lib.hid (cr_hit hjl hm hpj.out)
                  have HM := Lib.hid hm
                  clear hm
                  go_wp2_with fail
                  go_quiet (fail)
                  go_wp2_with fail
                  go_roundw
                  case rel => exact ⟨⟨j + 1, _, by omega, rfl, by go_num, by show _ = _; rw [HX.out]⟩, by first | exact HBy.out | exact below_drewN HBy.out _⟩
                  case measure => simp [intOf]; omega
                · have hm' : (ks[j].1 == ks[k].1) = false := by simpa using hm
                  have hmn : (ks[j].1 != ks[k].1) = true := by rw [bne, hm']; rfl
                  have HX := Lib.hid (cr_miss hjl hm' hpj.out)
                  clear hm hm'
                  go_wp2_with fail
                  go_quiet (fail)
                  go_wp2_with fail
                  go_roundw
                  case rel => exact ⟨⟨j + 1, _, by omega, rfl, by go_num, by show _ = _; rw [HX.out]⟩, by first | exact HBy.out | exact below_drewN HBy.out _⟩
                  case measure => simp [intOf]; omega
              | false =>
                have HX := Lib.hid (cr_no hjl hpj.out)
                go_wp2_with fail
                go_quiet (fail)
                go_wp2_with fail
                go_roundw
                case rel => exact ⟨⟨j + 1, _, by omega, rfl, by go_num, by show _ = _; rw [HX.out]⟩, by first | exact HBy.out | exact below_drewN HBy.out _⟩
                case measure => simp [intOf]; omega
            · obtain rfl : j = k := by omega
              have HX := Lib.hid (cr_end hlt hpj.out)
              go_wp2_with fail
              go_roundw
              case rel => exact ⟨⟨j + 1, bj, by omega, rfl, by go_num, HX.out⟩, HBy.out⟩
              case measure => simp [intOf]; omega
        | false =>
          have HB1 := HB
          have HS0 := Lib.hid (cr_zero hlt hp.out)
          go_wp2_with fail
          go_loopw [3, 5] (fun s j wy => CrIn ks q k s j ∧ Below (w.heap.size + 1) (w.alloc (.cells #[.slice (some ⟨kb, ko, none⟩) ks.length c, .int .i64 q] 24)) wy) (fun _ j _ => k - (intOf j).toNat)
          case atStart => exact ⟨⟨0, _, Nat.zero_le _, rfl, rfl, HS0.out⟩, HB1.out⟩
          case round =>
            obtain ⟨⟨j, bj, hj, rfl, rfl, hpj⟩, hby⟩ := hrel
            obtain ⟨hcy, hfy⟩ := bcell hby
            have HBy := Lib.hid hby
            have hzy := hby.size
            simp at hzy
            have hWy := Lib.hid (((Below.refl _ _).alloc (Nat.le_refl _) _).trans (hby.mono (Nat.le_succ _)))
            clear hby
            obtain ⟨_, _, he, hkb1, hk1, hk2⟩ := (h.below hWy.out).key_at hlt
            cases he
            by_cases hjk : j < k
            · have hjk' : (j : Int) < (k : Int) := by omega
              have hjl : j < ks.length := by omega
              have hjl' : (j : Int) < (ks.length : Int) := by omega
              obtain ⟨_, _, he, hkb2, hj1, hj2⟩ := (h.below hWy.out).key_at hjl
              cases he
              cases bj with
              | true =>
                by_cases hm : (ks[j].1 == ks[k].1) = true
                · have hmn : (ks[j].1 != ks[k].1) = false := by rw [bne, hm]; rfl
                  have HX := Lib.hid (cr_hit hjl hm hpj.out)
                  have HM := Lib.hid hm
                  clear hm
                  go_wp2_with fail
                  go_quiet (fail)
                  go_wp2_with fail
                  go_roundw
                  case rel => exact ⟨⟨j + 1, _, by omega, rfl, by go_num, by show _ = _; rw [HX.out]⟩, by first | exact HBy.out | exact below_drewN HBy.out _⟩
                  case measure => simp [intOf]; omega
                · have hm' : (ks[j].1 == ks[k].1) = false := by simpa using hm
                  have hmn : (ks[j].1 != ks[k].1) = true := by rw [bne, hm']; rfl
                  have HX := Lib.hid (cr_miss hjl hm' hpj.out)
                  clear hm hm'
                  go_wp2_with fail
                  go_quiet (fail)
                  go_wp2_with fail
                  go_roundw
                  case rel => exact ⟨⟨j + 1, _, by omega, rfl, by go_num, by show _ = _; rw [HX.out]⟩, by first | exact HBy.out | exact below_drewN HBy.out _⟩
                  case measure => simp [intOf]; omega
              | false =>
                have HX := Lib.hid (cr_no hjl hpj.out)
                go_wp2_with fail
                go_quiet (fail)
                go_wp2_with fail
                go_roundw
                case rel => exact ⟨⟨j + 1, _, by omega, rfl, by go_num, by show _ = _; rw [HX.out]⟩, by first | exact HBy.out | exact below_drewN HBy.out _⟩
                case measure => simp [intOf]; omega
            · obtain rfl : j = k := by omega
              have HX := Lib.hid (cr_end hlt hpj.out)
              go_wp2_with fail
              go_roundw
              case rel => exact ⟨⟨j + 1, bj, by omega, rfl, by go_num, HX.out⟩, HBy.out⟩
              case measure => simp [intOf]; omega
      · obtain rfl : k = ks.length := by omega
        have HX := Lib.hid (cr_all hp.out)
        cases b
        all_goals
          go_wp2_with fail
          go_ret
          exact ⟨ret_int (by rw [HX.out]; rfl), hWB.out⟩
end Go.Proofs.YtohfofecbdfkgaaGreatDoor
