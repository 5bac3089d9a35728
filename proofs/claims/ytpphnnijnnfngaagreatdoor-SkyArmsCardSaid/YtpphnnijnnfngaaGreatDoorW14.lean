/-
  The walks of the sky's siteOf, CheckNet and netted.
-/
import Derived.Test.YtpphnnijnnfngaaGreatDoorW13
import Derived.Laws.StructEq
import Derived.Deep.AppendLies
import Derived.Test.YtpphnnijnnfngaaGreatDoorW02
namespace Go.Proofs.YtpphnnijnnfngaaGreatDoor
open Go.RowKit Al

theorem run_eql_v3 (a b c x y z : Int) (w : World) : (Op.equal 40 (.agg #[.int .i64 a, .int .i64 b, .int .i64 c]) (.agg #[.int .i64 x, .int .i64 y, .int .i64 z])).run Tryz.prog w = .ok (a == x && (b == y && c == z)) w := by
  have hp : ∀ (i : Nat) (v : Value) (cs : Array Value), cs[i]? = some v → (part 3 cs i).run Tryz.prog w = .ok v w := by
    intro i v cs h
    unfold part
    have : (isAgg 3).run Tryz.prog w = .ok false w := by kernel_rfl
    simp only [Sem.run_bind, this, Result.andThen_ok, Bool.false_eq_true, if_false, h, Sem.run_pure]
  have hs : (sizeOf 3).run Tryz.prog w = .ok 1 w := by kernel_rfl
  unfold Op.equal Op.maxDepth
  rw [show 10000 = 9998 + 1 + 1 from rfl]
  unfold Op.equalIn
  simp only [Sem.run_bind, run_underlying Tryz.underlying40, Result.andThen_ok, hs]
  have hq : ∀ (p q : Int), (Op.equalIn 9999 3 (.int .i64 p) (.int .i64 q)).run Tryz.prog w = .ok (p == q) w := fun p q => run_equalIn_int w 9998 3 .i64 .i64 p q Tryz.underlying3
  rw [Std.Legacy.Range.forIn_eq_forIn_range']
  simp only [Std.Legacy.Range.size, Nat.sub_zero, Nat.add_sub_cancel, Nat.div_one, show List.range' 0 3 1 = [0, 1, 2] from rfl, List.forIn_cons, List.forIn_nil, Sem.run_bind, Nat.mul_one]
  have p0 := hp 0 _ #[.int .i64 a, .int .i64 b, .int .i64 c] rfl
  have p1 := hp 1 _ #[.int .i64 a, .int .i64 b, .int .i64 c] rfl
  have p2 := hp 2 _ #[.int .i64 a, .int .i64 b, .int .i64 c] rfl
  have q0 := hp 0 _ #[.int .i64 x, .int .i64 y, .int .i64 z] rfl
  have q1 := hp 1 _ #[.int .i64 x, .int .i64 y, .int .i64 z] rfl
  have q2 := hp 2 _ #[.int .i64 x, .int .i64 y, .int .i64 z] rfl
  have h0 := hq a x
  have h1 := hq b y
  have h2 := hq c z
  clear hp hq hs
  generalize (a == x) = e0 at h0 ⊢
  generalize (b == y) = e1 at h1 ⊢
  generalize (c == z) = e2 at h2 ⊢
  simp only [List.getElem_toArray, List.getElem_cons_zero, List.getElem_cons_succ] at p0 p1 p2 q0 q1 q2
  cases e0 <;> cases e1 <;> cases e2 <;> simp [h0, h1, h2, p0, p1, p2, q0, q1, q2, Result.andThen_ok, Sem.run_pure]
theorem run_neq_v3 (a b c x y z : Int) (w : World) : (binOp .neq 40 (.agg #[.int .i64 a, .int .i64 b, .int .i64 c]) (.agg #[.int .i64 x, .int .i64 y, .int .i64 z])).run Tryz.prog w = .ok (.bool (!(a == x && (b == y && c == z)))) w := by
  simp only [binOp, Sem.run_bind, run_eql_v3, Result.andThen_ok, Sem.run_pure]
set_option maxRecDepth 100000 in
theorem siteOf_ (x : NSi) (w : World) : Calls Tryz.prog 57 #[x.val] w fun e w' => e = .returned x.s.val ∧ Below w.heap.size w w' := by
  obtain ⟨n, ⟨a1, a2, a3⟩, ⟨a4, a5, a6⟩, ⟨a7, a8, a9⟩⟩ := x
  go_enter Tryz.func57, Tryz.ntmps57
  go_wp2_with fail
  refine bodyPost_ret (v := Site.val ⟨(a1, a2, a3), (a4, a5, a6), (a7, a8, a9)⟩) (by simp [results, Tryz.results57, go_sem]) rfl ?_
  exact ⟨rfl, (by repeat (first | exact Below.refl _ _ | assumption | refine below_drewN ?_ _ | refine Below.drew ?_ | refine Below.setCell ?_ (by first | omega | (simp; done) | (simp; omega)) _ | refine Below.alloc ?_ (by first | omega | (simp; done) | (simp; omega)) _))⟩
/-- Is a vector another one than zero? -/
def nzB (v : V3) : Bool := !(v.1 == 0 && (v.2.1 == 0 && v.2.2 == 0))
/-- Is a site in order? -/
def siteOkB (s : Site) : Bool := mostB s.p 65536 && (mostB s.u 100 && (mostB s.v 100 && (nzB s.u && nzB s.v)))
/-- Is a network in order? -/
def netB (L : List NSi) : Bool := (inB L.length 2 6 && namedB (L.map fun x => x.nm.data.toList)) && L.all fun x => siteOkB x.s
def netE (L : List NSi) : Int := if netB L then 0 else 90
def cnRel (L : List NSi) (b : Bool) (w : World) (o i : Value) (wr : World) : Prop := ∃ k : Nat, k ≤ L.length ∧ i = .int .i64 k ∧ o = .bool (b && (L.take k).all fun x => siteOkB x.s) ∧ Below w.heap.size w wr
set_option maxRecDepth 100000 in
set_option maxHeartbeats 8000000 in
theorem checkNet_ (L : List NSi) (A : Option Addr) (c : Nat) (w : World) (hL : Sl w w.heap.size 10 A L.length c (nsCells L)) (hm : ∀ x ∈ L, x.nm.size ≤ maxLen) :
    Calls Tryz.prog 56 #[.slice A L.length c] w fun e w' => e = .returned (.int .i64 (netE L)) ∧ Below w.heap.size w w' := by
  have hl : L.length ≤ maxLen := Nat.le_trans hL.cap hL.max
  unfold maxLen at hl
  have HL := Lib.hid hL
  have HM := Lib.hid hm
  clear hL hm
  obtain ⟨nb, hnb⟩ : ∃ nb, namedB (L.map fun x => x.nm.data.toList) = nb := ⟨_, rfl⟩
  obtain ⟨ib, hib⟩ : ∃ ib, inB L.length 2 6 = ib := ⟨_, rfl⟩
  have HNB := Lib.hid hnb
  have HIB := Lib.hid hib
  clear hnb hib
  cases ib with
  | false =>
    go_enter Tryz.func56, Tryz.ntmps56
    go_wp2_with (go_at_call 24; refine (swithin_ _ _ _ _).mono ?_; rintro e w' ⟨rfl, rfl⟩; rw [HIB.out])
    go_loopw [3, 16] (fun o i wr => cnRel L false w o i wr) (fun _ i _ => L.length - (intOf i).toNat)
    case atStart => exact ⟨0, Nat.zero_le _, rfl, by simp, (by repeat (first | exact Below.refl _ _ | assumption | refine below_drewN ?_ _ | refine Below.drew ?_ | refine Below.setCell ?_ (by first | omega | (simp; done) | (simp; omega)) _ | refine Below.alloc ?_ (by first | omega | (simp; done) | (simp; omega)) _))⟩
    case round =>
      obtain ⟨k, hk, rfl, rfl, hbw⟩ := hrel
      have HBW := Lib.hid hbw
      have hsz := hbw.size
      clear hbw
      by_cases hlt : k < L.length
      · obtain ⟨tb, tof9, rfl, htb, c0, c1, c2, c3, c4, c5, c6, c7, c8, c9⟩ := (HL.out.below HBW.out).ns_at hlt
        have hsn : (false && (L.take (k + 1)).all fun x => siteOkB x.s) = ((false && (L.take k).all fun x => siteOkB x.s) && siteOkB L[k].s) := by rw [all_take_succ _ hlt, Bool.and_assoc]
        have HS := Lib.hid hsn
        obtain ⟨X, hX⟩ : ∃ X, L[k] = X := ⟨_, rfl⟩
        rw [hX] at c0 c1 c2 c3 c4 c5 c6 c7 c8 c9 HS
        have hlt' : (k : Int) < (L.length : Int) := by omega
        have htb2 : tb < wr.heap.size := by omega
        obtain ⟨q, hq⟩ : ∃ q, (false && (L.take k).all fun x => siteOkB x.s) = q := ⟨_, rfl⟩
        rw [hq] at HS ⊢
        clear hX hsn hq
        go_wp2_with fail
        refine (siteOf_ X _).mono ?_
        rintro e w2 ⟨rfl, hb⟩
        have hb2 : Below wr.heap.size wr w2 := (show Below wr.heap.size wr _ from (by repeat (first | exact Below.refl _ _ | assumption | refine below_drewN ?_ _ | refine Below.drew ?_ | refine Below.setCell ?_ (by first | omega | (simp; done) | (simp; omega)) _ | refine Below.alloc ?_ (by first | omega | (simp; done) | (simp; omega)) _))).trans (hb.mono (by simp))
        have hz2 := hb2.size
        clear hb
        obtain ⟨nm, ⟨⟨x1, x2, x3⟩, ⟨y1, y2, y3⟩, ⟨z1, z2, z3⟩⟩⟩ := X
        have HB2 : Hid (Below wr.heap.size wr (w2.alloc (.cells #[.int .i64 x1, .int .i64 x2, .int .i64 x3, .int .i64 y1, .int .i64 y2, .int .i64 y3, .int .i64 z1, .int .i64 z2, .int .i64 z3] 44))) := (by repeat (first | exact Below.refl _ _ | assumption | refine below_drewN ?_ _ | refine Below.drew ?_ | refine Below.setCell ?_ (by first | omega | (simp; done) | (simp; omega)) _ | refine Below.alloc ?_ (by first | omega | (simp; done) | (simp; omega)) _))
        have S9 : Hid (∀ W, Below (w2.heap.size + 1) (w2.alloc (.cells #[.int .i64 x1, .int .i64 x2, .int .i64 x3, .int .i64 y1, .int .i64 y2, .int .i64 y3, .int .i64 z1, .int .i64 z2, .int .i64 z3] 44)) W → W.cell? ⟨w2.heap.size, 3, none⟩ = some (.int .i64 y1) ∧ W.cell? ⟨w2.heap.size, 4, none⟩ = some (.int .i64 y2) ∧ W.cell? ⟨w2.heap.size, 5, none⟩ = some (.int .i64 y3) ∧ W.cell? ⟨w2.heap.size, 6, none⟩ = some (.int .i64 z1) ∧ W.cell? ⟨w2.heap.size, 7, none⟩ = some (.int .i64 z2) ∧ W.cell? ⟨w2.heap.size, 8, none⟩ = some (.int .i64 z3)) := fun W h =>
          ⟨(h.cell (p := ⟨w2.heap.size, 3, none⟩) (Nat.lt_succ_self _)).trans (by simp [go_sem]), (h.cell (p := ⟨w2.heap.size, 4, none⟩) (Nat.lt_succ_self _)).trans (by simp [go_sem]), (h.cell (p := ⟨w2.heap.size, 5, none⟩) (Nat.lt_succ_self _)).trans (by simp [go_sem]),
            (h.cell (p := ⟨w2.heap.size, 6, none⟩) (Nat.lt_succ_self _)).trans (by simp [go_sem]), (h.cell (p := ⟨w2.heap.size, 7, none⟩) (Nat.lt_succ_self _)).trans (by simp [go_sem]), (h.cell (p := ⟨w2.heap.size, 8, none⟩) (Nat.lt_succ_self _)).trans (by simp [go_sem])⟩
        clear hb2
        have hsx : siteOkB ⟨(x1, x2, x3), (y1, y2, y3), (z1, z2, z3)⟩ = (mostB (x1, x2, x3) 65536 && (mostB (y1, y2, y3) 100 && (mostB (z1, z2, z3) 100 && (nzB (y1, y2, y3) && nzB (z1, z2, z3))))) := rfl
        rw [show (NSi.mk nm ⟨(x1, x2, x3), (y1, y2, y3), (z1, z2, z3)⟩).s = ⟨(x1, x2, x3), (y1, y2, y3), (z1, z2, z3)⟩ from rfl, hsx] at HS
        clear hsx
        obtain ⟨n1, hn1⟩ : ∃ n1, nzB (y1, y2, y3) = n1 := ⟨_, rfl⟩
        obtain ⟨n2, hn2⟩ : ∃ n2, nzB (z1, z2, z3) = n2 := ⟨_, rfl⟩
        rw [hn1, hn2] at HS
        have HN1 : Hid (∀ W, (Op.equalIn 10000 40 (.agg #[.int .i64 y1, .int .i64 y2, .int .i64 y3]) (.agg #[.int .i64 0, .int .i64 0, .int .i64 0])).run Tryz.prog W = .ok (!n1) W) := fun W => (run_eql_v3 _ _ _ _ _ _ W).trans (by rw [← hn1]; unfold nzB; simp)
        have HN2 : Hid (∀ W, (Op.equalIn 10000 40 (.agg #[.int .i64 z1, .int .i64 z2, .int .i64 z3]) (.agg #[.int .i64 0, .int .i64 0, .int .i64 0])).run Tryz.prog W = .ok (!n2) W) := fun W => (run_eql_v3 _ _ _ _ _ _ W).trans (by rw [← hn2]; unfold nzB; simp)
        clear hn1 hn2
        cases q with
        | false =>
          go_wp2_with fail
          go_roundw
          case rel => exact ⟨k + 1, by omega, by go_num, (by rw [HS.out]; first | rfl | simp), HBW.out.trans (HB2.out.mono hsz)⟩
          case measure => simp [intOf]; omega
        | true =>
          go_wp2_with fail
          refine (most_ (x1, x2, x3) 65536 _ (w64 (by decide) (by decide))).mono ?_
          rintro e w3 ⟨rfl, hb⟩
          obtain ⟨d3, d4, d5, d6, d7, d8⟩ := S9.out w3 ((show Below (w2.heap.size + 1) (w2.alloc (.cells #[.int .i64 x1, .int .i64 x2, .int .i64 x3, .int .i64 y1, .int .i64 y2, .int .i64 y3, .int .i64 z1, .int .i64 z2, .int .i64 z3] 44)) _ from Below.refl _ _).trans (hb.mono (by first | omega | (simp; done) | (simp; omega))))
          have H9 : Hid (Below (w2.heap.size + 1) (w2.alloc (.cells #[.int .i64 x1, .int .i64 x2, .int .i64 x3, .int .i64 y1, .int .i64 y2, .int .i64 y3, .int .i64 z1, .int .i64 z2, .int .i64 z3] 44)) w3) := (show Below (w2.heap.size + 1) (w2.alloc (.cells #[.int .i64 x1, .int .i64 x2, .int .i64 x3, .int .i64 y1, .int .i64 y2, .int .i64 y3, .int .i64 z1, .int .i64 z2, .int .i64 z3] 44)) _ from Below.refl _ _).trans (hb.mono (by first | omega | (simp; done) | (simp; omega)))
          have hz3 := hb.size
          try simp at hz3
          clear hb
          obtain ⟨m, hm⟩ : ∃ m, mostB (x1, x2, x3) 65536 = m := ⟨_, rfl⟩
          rw [hm] at HS ⊢
          clear hm
          cases m with
          | false =>
            go_wp2_with fail
            go_roundw
            case rel => exact ⟨k + 1, by omega, by go_num, (by rw [HS.out]; first | rfl | simp), HBW.out.trans ((HB2.out.trans (H9.out.mono (by omega))).mono hsz)⟩
            case measure => simp [intOf]; omega
          | true =>
            go_wp2_with fail
            refine (most_ (y1, y2, y3) 100 _ (w64 (by decide) (by decide))).mono ?_
            rintro e w3 ⟨rfl, hb⟩
            obtain ⟨d3, d4, d5, d6, d7, d8⟩ := S9.out w3 (H9.out.trans (hb.mono (by first | omega | (simp; done) | (simp; omega))))
            have H9 : Hid (Below (w2.heap.size + 1) (w2.alloc (.cells #[.int .i64 x1, .int .i64 x2, .int .i64 x3, .int .i64 y1, .int .i64 y2, .int .i64 y3, .int .i64 z1, .int .i64 z2, .int .i64 z3] 44)) w3) := H9.out.trans (hb.mono (by first | omega | (simp; done) | (simp; omega)))
            have hz3 := hb.size
            try simp at hz3
            clear hb
            obtain ⟨m, hm⟩ : ∃ m, mostB (y1, y2, y3) 100 = m := ⟨_, rfl⟩
            rw [hm] at HS ⊢
            clear hm
            cases m with
            | false =>
              go_wp2_with fail
              go_roundw
              case rel => exact ⟨k + 1, by omega, by go_num, (by rw [HS.out]; first | rfl | simp), HBW.out.trans ((HB2.out.trans (H9.out.mono (by omega))).mono hsz)⟩
              case measure => simp [intOf]; omega
            | true =>
              go_wp2_with fail
              refine (most_ (z1, z2, z3) 100 _ (w64 (by decide) (by decide))).mono ?_
              rintro e w3 ⟨rfl, hb⟩
              obtain ⟨d3, d4, d5, d6, d7, d8⟩ := S9.out w3 (H9.out.trans (hb.mono (by first | omega | (simp; done) | (simp; omega))))
              have H9 : Hid (Below (w2.heap.size + 1) (w2.alloc (.cells #[.int .i64 x1, .int .i64 x2, .int .i64 x3, .int .i64 y1, .int .i64 y2, .int .i64 y3, .int .i64 z1, .int .i64 z2, .int .i64 z3] 44)) w3) := H9.out.trans (hb.mono (by first | omega | (simp; done) | (simp; omega)))
              have hz3 := hb.size
              try simp at hz3
              clear hb
              obtain ⟨m, hm⟩ : ∃ m, mostB (z1, z2, z3) 100 = m := ⟨_, rfl⟩
              rw [hm] at HS ⊢
              clear hm
              cases m with
              | false =>
                go_wp2_with fail
                go_roundw
                case rel => exact ⟨k + 1, by omega, by go_num, (by rw [HS.out]; first | rfl | simp), HBW.out.trans ((HB2.out.trans (H9.out.mono (by omega))).mono hsz)⟩
                case measure => simp [intOf]; omega
              | true =>
                have hv1 := HN1.out w3
                have hv2 := HN2.out w3
                cases n1 with
                | false =>
                  go_wp2_with fail
                  go_roundw
                  case rel => exact ⟨k + 1, by omega, by go_num, (by rw [HS.out]; first | rfl | simp), HBW.out.trans ((HB2.out.trans (H9.out.mono (by omega))).mono hsz)⟩
                  case measure => simp [intOf]; omega
                | true =>
                  cases n2 with
                  | false =>
                    go_wp2_with fail
                    go_roundw
                    case rel => exact ⟨k + 1, by omega, by go_num, (by rw [HS.out]; first | rfl | simp), HBW.out.trans ((HB2.out.trans (H9.out.mono (by omega))).mono hsz)⟩
                    case measure => simp [intOf]; omega
                  | true =>
                    go_wp2_with fail
                    go_roundw
                    case rel => exact ⟨k + 1, by omega, by go_num, (by rw [HS.out]; first | rfl | simp), HBW.out.trans ((HB2.out.trans (H9.out.mono (by omega))).mono hsz)⟩
                    case measure => simp [intOf]; omega
      · obtain rfl : k = L.length := by omega
        have HNE : Hid (netE L = if (false && L.all fun x => siteOkB x.s) then 0 else 90) := by show _ = _; unfold netE netB; rw [HIB.out]; first | rfl | (simp; done)
        rw [List.take_of_length_le (Nat.le_refl _)] at *
        cases hq : (false && L.all fun x => siteOkB x.s) with
        | false =>
          rw [hq] at HNE
          have HQ := HNE
          clear hq HNE
          go_wp2_with fail
          go_ret
          exact ⟨ret_int (by rw [HQ.out]; rfl), HBW.out⟩
        | true =>
          rw [hq] at HNE
          have HQ := HNE
          clear hq HNE
          go_wp2_with fail
          go_ret
          exact ⟨ret_int (by rw [HQ.out]; rfl), HBW.out⟩
  | true =>
    go_enter Tryz.func56, Tryz.ntmps56
    go_wp2_with (first | (go_at_call 24; refine (swithin_ _ _ _ _).mono ?_; rintro e w' ⟨rfl, rfl⟩; rw [HIB.out]) | (go_at_call 84; refine (namedS_ L A c _ HL.out HM.out).mono ?_; rintro e w1 ⟨rfl, hb1⟩; rw [HNB.out]; have HB1 := Lib.hid hb1; clear hb1))
    have HA : Hid (Below w.heap.size w w1) := HB1.out
    go_loopw [3, 16] (fun o i wr => cnRel L nb w o i wr) (fun _ i _ => L.length - (intOf i).toNat)
    case atStart => exact ⟨0, Nat.zero_le _, rfl, by simp, HA.out⟩
    case round =>
      obtain ⟨k, hk, rfl, rfl, hbw⟩ := hrel
      have HBW := Lib.hid hbw
      have hsz := hbw.size
      clear hbw
      by_cases hlt : k < L.length
      · obtain ⟨tb, tof9, rfl, htb, c0, c1, c2, c3, c4, c5, c6, c7, c8, c9⟩ := (HL.out.below HBW.out).ns_at hlt
        have hsn : (nb && (L.take (k + 1)).all fun x => siteOkB x.s) = ((nb && (L.take k).all fun x => siteOkB x.s) && siteOkB L[k].s) := by rw [all_take_succ _ hlt, Bool.and_assoc]
        have HS := Lib.hid hsn
        obtain ⟨X, hX⟩ : ∃ X, L[k] = X := ⟨_, rfl⟩
        rw [hX] at c0 c1 c2 c3 c4 c5 c6 c7 c8 c9 HS
        have hlt' : (k : Int) < (L.length : Int) := by omega
        have htb2 : tb < wr.heap.size := by omega
        obtain ⟨q, hq⟩ : ∃ q, (nb && (L.take k).all fun x => siteOkB x.s) = q := ⟨_, rfl⟩
        rw [hq] at HS ⊢
        clear hX hsn hq
        go_wp2_with fail
        refine (siteOf_ X _).mono ?_
        rintro e w2 ⟨rfl, hb⟩
        have hb2 : Below wr.heap.size wr w2 := (show Below wr.heap.size wr _ from (by repeat (first | exact Below.refl _ _ | assumption | refine below_drewN ?_ _ | refine Below.drew ?_ | refine Below.setCell ?_ (by first | omega | (simp; done) | (simp; omega)) _ | refine Below.alloc ?_ (by first | omega | (simp; done) | (simp; omega)) _))).trans (hb.mono (by simp))
        have hz2 := hb2.size
        clear hb
        obtain ⟨nm, ⟨⟨x1, x2, x3⟩, ⟨y1, y2, y3⟩, ⟨z1, z2, z3⟩⟩⟩ := X
        have HB2 : Hid (Below wr.heap.size wr (w2.alloc (.cells #[.int .i64 x1, .int .i64 x2, .int .i64 x3, .int .i64 y1, .int .i64 y2, .int .i64 y3, .int .i64 z1, .int .i64 z2, .int .i64 z3] 44))) := (by repeat (first | exact Below.refl _ _ | assumption | refine below_drewN ?_ _ | refine Below.drew ?_ | refine Below.setCell ?_ (by first | omega | (simp; done) | (simp; omega)) _ | refine Below.alloc ?_ (by first | omega | (simp; done) | (simp; omega)) _))
        have S9 : Hid (∀ W, Below (w2.heap.size + 1) (w2.alloc (.cells #[.int .i64 x1, .int .i64 x2, .int .i64 x3, .int .i64 y1, .int .i64 y2, .int .i64 y3, .int .i64 z1, .int .i64 z2, .int .i64 z3] 44)) W → W.cell? ⟨w2.heap.size, 3, none⟩ = some (.int .i64 y1) ∧ W.cell? ⟨w2.heap.size, 4, none⟩ = some (.int .i64 y2) ∧ W.cell? ⟨w2.heap.size, 5, none⟩ = some (.int .i64 y3) ∧ W.cell? ⟨w2.heap.size, 6, none⟩ = some (.int .i64 z1) ∧ W.cell? ⟨w2.heap.size, 7, none⟩ = some (.int .i64 z2) ∧ W.cell? ⟨w2.heap.size, 8, none⟩ = some (.int .i64 z3)) := fun W h =>
          ⟨(h.cell (p := ⟨w2.heap.size, 3, none⟩) (Nat.lt_succ_self _)).trans (by simp [go_sem]), (h.cell (p := ⟨w2.heap.size, 4, none⟩) (Nat.lt_succ_self _)).trans (by simp [go_sem]), (h.cell (p := ⟨w2.heap.size, 5, none⟩) (Nat.lt_succ_self _)).trans (by simp [go_sem]),
            (h.cell (p := ⟨w2.heap.size, 6, none⟩) (Nat.lt_succ_self _)).trans (by simp [go_sem]), (h.cell (p := ⟨w2.heap.size, 7, none⟩) (Nat.lt_succ_self _)).trans (by simp [go_sem]), (h.cell (p := ⟨w2.heap.size, 8, none⟩) (Nat.lt_succ_self _)).trans (by simp [go_sem])⟩
        clear hb2
        have hsx : siteOkB ⟨(x1, x2, x3), (y1, y2, y3), (z1, z2, z3)⟩ = (mostB (x1, x2, x3) 65536 && (mostB (y1, y2, y3) 100 && (mostB (z1, z2, z3) 100 && (nzB (y1, y2, y3) && nzB (z1, z2, z3))))) := rfl
        rw [show (NSi.mk nm ⟨(x1, x2, x3), (y1, y2, y3), (z1, z2, z3)⟩).s = ⟨(x1, x2, x3), (y1, y2, y3), (z1, z2, z3)⟩ from rfl, hsx] at HS
        clear hsx
        obtain ⟨n1, hn1⟩ : ∃ n1, nzB (y1, y2, y3) = n1 := ⟨_, rfl⟩
        obtain ⟨n2, hn2⟩ : ∃ n2, nzB (z1, z2, z3) = n2 := ⟨_, rfl⟩
        rw [hn1, hn2] at HS
        have HN1 : Hid (∀ W, (Op.equalIn 10000 40 (.agg #[.int .i64 y1, .int .i64 y2, .int .i64 y3]) (.agg #[.int .i64 0, .int .i64 0, .int .i64 0])).run Tryz.prog W = .ok (!n1) W) := fun W => (run_eql_v3 _ _ _ _ _ _ W).trans (by rw [← hn1]; unfold nzB; simp)
        have HN2 : Hid (∀ W, (Op.equalIn 10000 40 (.agg #[.int .i64 z1, .int .i64 z2, .int .i64 z3]) (.agg #[.int .i64 0, .int .i64 0, .int .i64 0])).run Tryz.prog W = .ok (!n2) W) := fun W => (run_eql_v3 _ _ _ _ _ _ W).trans (by rw [← hn2]; unfold nzB; simp)
        clear hn1 hn2
        cases q with
        | false =>
          go_wp2_with fail
          go_roundw
          case rel => exact ⟨k + 1, by omega, by go_num, (by rw [HS.out]; first | rfl | simp), HBW.out.trans (HB2.out.mono hsz)⟩
          case measure => simp [intOf]; omega
        | true =>
          go_wp2_with fail
          refine (most_ (x1, x2, x3) 65536 _ (w64 (by decide) (by decide))).mono ?_
          rintro e w3 ⟨rfl, hb⟩
          obtain ⟨d3, d4, d5, d6, d7, d8⟩ := S9.out w3 ((show Below (w2.heap.size + 1) (w2.alloc (.cells #[.int .i64 x1, .int .i64 x2, .int .i64 x3, .int .i64 y1, .int .i64 y2, .int .i64 y3, .int .i64 z1, .int .i64 z2, .int .i64 z3] 44)) _ from Below.refl _ _).trans (hb.mono (by first | omega | (simp; done) | (simp; omega))))
          have H9 : Hid (Below (w2.heap.size + 1) (w2.alloc (.cells #[.int .i64 x1, .int .i64 x2, .int .i64 x3, .int .i64 y1, .int .i64 y2, .int .i64 y3, .int .i64 z1, .int .i64 z2, .int .i64 z3] 44)) w3) := (show Below (w2.heap.size + 1) (w2.alloc (.cells #[.int .i64 x1, .int .i64 x2, .int .i64 x3, .int .i64 y1, .int .i64 y2, .int .i64 y3, .int .i64 z1, .int .i64 z2, .int .i64 z3] 44)) _ from Below.refl _ _).trans (hb.mono (by first | omega | (simp; done) | (simp; omega)))
          have hz3 := hb.size
          try simp at hz3
          clear hb
          obtain ⟨m, hm⟩ : ∃ m, mostB (x1, x2, x3) 65536 = m := ⟨_, rfl⟩
          rw [hm] at HS ⊢
          clear hm
          cases m with
          | false =>
            go_wp2_with fail
            go_roundw
            case rel => exact ⟨k + 1, by omega, by go_num, (by rw [HS.out]; first | rfl | simp), HBW.out.trans ((HB2.out.trans (H9.out.mono (by omega))).mono hsz)⟩
            case measure => simp [intOf]; omega
          | true =>
            go_wp2_with fail
            refine (most_ (y1, y2, y3) 100 _ (w64 (by decide) (by decide))).mono ?_
            rintro e w3 ⟨rfl, hb⟩
            obtain ⟨d3, d4, d5, d6, d7, d8⟩ := S9.out w3 (H9.out.trans (hb.mono (by first | omega | (simp; done) | (simp; omega))))
            have H9 : Hid (Below (w2.heap.size + 1) (w2.alloc (.cells #[.int .i64 x1, .int .i64 x2, .int .i64 x3, .int .i64 y1, .int .i64 y2, .int .i64 y3, .int .i64 z1, .int .i64 z2, .int .i64 z3] 44)) w3) := H9.out.trans (hb.mono (by first | omega | (simp; done) | (simp; omega)))
            have hz3 := hb.size
            try simp at hz3
            clear hb
            obtain ⟨m, hm⟩ : ∃ m, mostB (y1, y2, y3) 100 = m := ⟨_, rfl⟩
            rw [hm] at HS ⊢
            clear hm
            cases m with
            | false =>
              go_wp2_with fail
              go_roundw
              case rel => exact ⟨k + 1, by omega, by go_num, (by rw [HS.out]; first | rfl | simp), HBW.out.trans ((HB2.out.trans (H9.out.mono (by omega))).mono hsz)⟩
              case measure => simp [intOf]; omega
            | true =>
              go_wp2_with fail
              refine (most_ (z1, z2, z3) 100 _ (w64 (by decide) (by decide))).mono ?_
              rintro e w3 ⟨rfl, hb⟩
              obtain ⟨d3, d4, d5, d6, d7, d8⟩ := S9.out w3 (H9.out.trans (hb.mono (by first | omega | (simp; done) | (simp; omega))))
              have H9 : Hid (Below (w2.heap.size + 1) (w2.alloc (.cells #[.int .i64 x1, .int .i64 x2, .int .i64 x3, .int .i64 y1, .int .i64 y2, .int .i64 y3, .int .i64 z1, .int .i64 z2, .int .i64 z3] 44)) w3) := H9.out.trans (hb.mono (by first | omega | (simp; done) | (simp; omega)))
              have hz3 := hb.size
              try simp at hz3
              clear hb
              obtain ⟨m, hm⟩ : ∃ m, mostB (z1, z2, z3) 100 = m := ⟨_, rfl⟩
              rw [hm] at HS ⊢
              clear hm
              cases m with
              | false =>
                go_wp2_with fail
                go_roundw
                case rel => exact ⟨k + 1, by omega, by go_num, (by rw [HS.out]; first | rfl | simp), HBW.out.trans ((HB2.out.trans (H9.out.mono (by omega))).mono hsz)⟩
                case measure => simp [intOf]; omega
              | true =>
                have hv1 := HN1.out w3
                have hv2 := HN2.out w3
                cases n1 with
                | false =>
                  go_wp2_with fail
                  go_roundw
                  case rel => exact ⟨k + 1, by omega, by go_num, (by rw [HS.out]; first | rfl | simp), HBW.out.trans ((HB2.out.trans (H9.out.mono (by omega))).mono hsz)⟩
                  case measure => simp [intOf]; omega
                | true =>
                  cases n2 with
                  | false =>
                    go_wp2_with fail
                    go_roundw
                    case rel => exact ⟨k + 1, by omega, by go_num, (by rw [HS.out]; first | rfl | simp), HBW.out.trans ((HB2.out.trans (H9.out.mono (by omega))).mono hsz)⟩
                    case measure => simp [intOf]; omega
                  | true =>
                    go_wp2_with fail
                    go_roundw
                    case rel => exact ⟨k + 1, by omega, by go_num, (by rw [HS.out]; first | rfl | simp), HBW.out.trans ((HB2.out.trans (H9.out.mono (by omega))).mono hsz)⟩
                    case measure => simp [intOf]; omega
      · obtain rfl : k = L.length := by omega
        have HNE : Hid (netE L = if (nb && L.all fun x => siteOkB x.s) then 0 else 90) := by show _ = _; unfold netE netB; rw [HIB.out, HNB.out]; first | rfl | (simp; done)
        rw [List.take_of_length_le (Nat.le_refl _)] at *
        cases hq : (nb && L.all fun x => siteOkB x.s) with
        | false =>
          rw [hq] at HNE
          have HQ := HNE
          clear hq HNE
          go_wp2_with fail
          go_ret
          exact ⟨ret_int (by rw [HQ.out]; rfl), HBW.out⟩
        | true =>
          rw [hq] at HNE
          have HQ := HNE
          clear hq HNE
          go_wp2_with fail
          go_ret
          exact ⟨ret_int (by rw [HQ.out]; rfl), HBW.out⟩

end Go.Proofs.YtpphnnijnnfngaaGreatDoor

/-
  The walk of the sky's netted: the sites of a network, or the first error.
-/
namespace Go.Proofs.YtpphnnijnnfngaaGreatDoor
open Go.RowKit Al

/-- The first error of a network and a grid. -/
def netG (L : List NSi) (n : Int) : Int := if netE L == 0 then (if inB n 1 8 then 0 else 91) else 90
theorem netE_cases (L : List NSi) : netE L = 0 ∨ netE L = 90 := by unfold netE; split <;> simp
theorem infoSite : (Tryz.prog.info? 44).map (fun i => (i.zero, i.size, i.bytes)) = some (some (.agg #[.int .i64 0, .int .i64 0, .int .i64 0, .int .i64 0, .int .i64 0, .int .i64 0, .int .i64 0, .int .i64 0, .int .i64 0]), 9, 72) := by kernel_rfl
def sites (L : List NSi) : List Site := L.map (·.s)
theorem sites_snoc {L : List NSi} {k : Nat} (h : k < L.length) : siCells (sites (L.take (k + 1))) = siCells (sites (L.take k)) ++ siCell L[k].s := by
  unfold sites siCells
  rw [List.take_succ_eq_append_getElem h, List.map_append, List.flatMap_append]
  simp
theorem site_one (s : Site) : ∀ u ∈ siCell s, u.oneCell' = true := by
  intro u hu
  simp [siCell] at hu
  rcases hu with rfl | rfl | rfl | rfl | rfl | rfl | rfl | rfl | rfl <;> rfl
set_option maxRecDepth 100000 in
theorem netted_e (L : List NSi) (A : Option Addr) (c : Nat) (n v : Int) (w : World) (hv : netG L n = v) (h0 : ¬ v = 0) (hL : Sl w w.heap.size 10 A L.length c (nsCells L)) (hm : ∀ x ∈ L, x.nm.size ≤ maxLen) :
    Calls Tryz.prog 23 #[.slice A L.length c, .int .i64 n] w fun e w' => e = .returned (.tuple #[.slice none 0 0, .int .i64 v]) ∧ Below w.heap.size w w' := by
  have HL := Lib.hid hL
  have HM := Lib.hid hm
  have HV := Lib.hid hv
  have H0 := Lib.hid h0
  clear hL hm hv h0
  rcases netE_cases L with h | h
  · have HE := Lib.hid h
    have hg : inB n 1 8 = false := by
      cases hg : inB n 1 8 with
      | false => rfl
      | true => exact absurd (by rw [← HV.out]; unfold netG; rw [h, hg]; rfl) H0.out
    have HG := Lib.hid hg
    obtain rfl : v = 91 := by rw [← HV.out]; unfold netG; rw [h, hg]; rfl
    clear h hg
    go_enter Tryz.func23, Tryz.ntmps23
    go_wp2_with (first
      | (go_at_call 56; refine (checkNet_ L A c _ HL.out HM.out).mono ?_; rintro e w1 ⟨rfl, hb1⟩; rw [HE.out]; have HB1 := Lib.hid hb1; clear hb1)
      | (go_at_call 30; refine (skGrid_ _ _).mono ?_; rintro e w' ⟨rfl, rfl⟩; rw [HG.out]))
    go_ret2
    exact ⟨rfl, HB1.out⟩
  · have HE := Lib.hid h
    obtain rfl : v = 90 := by rw [← HV.out]; unfold netG; rw [h]; rfl
    clear h
    go_enter Tryz.func23, Tryz.ntmps23
    go_wp2_with (go_at_call 56; refine (checkNet_ L A c _ HL.out HM.out).mono ?_; rintro e w1 ⟨rfl, hb1⟩; rw [HE.out]; have HB1 := Lib.hid hb1; clear hb1)
    go_ret2
    exact ⟨rfl, HB1.out⟩
def ntRel (L : List NSi) (w : World) (o i : Value) (wr : World) : Prop := ∃ (k : Nat) (B : Option Addr) (c : Nat), k ≤ L.length ∧ i = .int .i64 k ∧ o = .slice B k c ∧ Hid (wr.ownsRow w.heap.size 44 9 (.slice B k c) k (siCells (sites (L.take k)))) ∧ Below w.heap.size w wr
def NetOut (L : List NSi) (w : World) (e : Ending) (w' : World) : Prop := ∃ B c, e = .returned (.tuple #[.slice B L.length c, .int .i64 0]) ∧ w'.ownsRow w.heap.size 44 9 (.slice B L.length c) L.length (siCells (sites L)) ∧ Below w.heap.size w w'
set_option maxRecDepth 100000 in
set_option maxHeartbeats 4000000 in
theorem netted_ok (L : List NSi) (A : Option Addr) (c : Nat) (n : Int) (w : World) (hv : netG L n = 0) (hL : Sl w w.heap.size 10 A L.length c (nsCells L)) (hm : ∀ x ∈ L, x.nm.size ≤ maxLen) :
    Calls Tryz.prog 23 #[.slice A L.length c, .int .i64 n] w (NetOut L w) := by
  obtain ⟨i0, hi, hz0, hz1, hz2⟩ := info_parts infoSite
  have he : netE L = 0 := by
    rcases netE_cases L with h | h
    · exact h
    · unfold netG at hv; rw [h] at hv; cases hv
  have hg : inB n 1 8 = true := by
    unfold netG at hv
    rw [he] at hv
    cases hg : inB n 1 8 with
    | true => rfl
    | false => rw [hg] at hv; cases hv
  have hnb : netB L = true := by
    unfold netE at he
    cases hb : netB L with
    | true => rfl
    | false => rw [hb] at he; cases he
  have hl6 : L.length ≤ 6 := by
    unfold netB at hnb
    simp only [Bool.and_eq_true] at hnb
    have := inB_true.1 hnb.1.1
    omega
  have HL := Lib.hid hL
  have HM := Lib.hid hm
  have HE := Lib.hid he
  have HG := Lib.hid hg
  clear hL hm hv he hg hnb
  go_enter Tryz.func23, Tryz.ntmps23
  go_wp2_with (first
    | (go_at_call 56; refine (checkNet_ L A c _ HL.out HM.out).mono ?_; rintro e w1 ⟨rfl, hb1⟩; rw [HE.out]; have HB1 := Lib.hid hb1; clear hb1)
    | (go_at_call 30; refine (skGrid_ _ _).mono ?_; rintro e w' ⟨rfl, rfl⟩; rw [HG.out]))
  go_loopw [7, 20] (fun o i wr => ntRel L w o i wr) (fun _ i _ => L.length - (intOf i).toNat)
  case atStart => exact ⟨0, none, 0, Nat.zero_le _, rfl, rfl, World.ownsRow_nil _ _ _ _, HB1.out⟩
  case round =>
    obtain ⟨k, B, cc, hk, rfl, rfl, HO, hbw⟩ := hrel
    have HBW := Lib.hid hbw
    have hsz := hbw.size
    clear hbw
    by_cases hlt : k < L.length
    · obtain ⟨tb, tof9, rfl, htb, c0, c1, c2, c3, c4, c5, c6, c7, c8, c9⟩ := (HL.out.below HBW.out).ns_at hlt
      have HS := Lib.hid (sites_snoc hlt)
      obtain ⟨X, hX⟩ : ∃ X, L[k] = X := ⟨_, rfl⟩
      rw [hX] at c0 c1 c2 c3 c4 c5 c6 c7 c8 c9 HS
      have hlt' : (k : Int) < (L.length : Int) := by omega
      have htb2 : tb < wr.heap.size := by omega
      obtain ⟨nm, ⟨⟨x1, x2, x3⟩, ⟨y1, y2, y3⟩, ⟨z1, z2, z3⟩⟩⟩ := X
      clear hX
      go_wp2_with (first
        | (go_at_call 57; refine (siteOf_ ⟨nm, ⟨(x1, x2, x3), (y1, y2, y3), (z1, z2, z3)⟩⟩ _).mono ?_; rintro e w3 ⟨rfl, hb3⟩; have HB3 : Hid (Below wr.heap.size wr w3) := (show Below wr.heap.size wr _ from (by repeat (first | exact Below.refl _ _ | assumption | refine below_drewN ?_ _ | refine Below.drew ?_ | refine Below.setCell ?_ (by first | omega | (simp; done) | (simp; omega)) _ | refine Below.alloc ?_ (by first | omega | (simp; done) | (simp; omega)) _))).trans (hb3.mono (by first | omega | (simp; done) | (simp; omega))); have hz3 := HB3.out.size; clear hb3)
        | (at_builtin; go_must (refine wpList_append_lies _ rfl _ _ 39 rfl w.heap.size 44 i0 (.agg #[.int .i64 0, .int .i64 0, .int .i64 0, .int .i64 0, .int .i64 0, .int .i64 0, .int .i64 0, .int .i64 0, .int .i64 0]) 9 72 Tryz.underlying39 hi hz0 hz1 hz2 rfl (by decide) (.slice B k cc) k _ rfl (own_below HO.out (Nat.le_refl _) (HB3.out.alloc HB3.out.size _)) _ 1 1 (siCell ⟨(x1, x2, x3), (y1, y2, y3), (z1, z2, z3)⟩) rfl rfl (World.news_of_block (heap_alloc_new w3 _)) (site_one _) (by decide) (by unfold maxLen; omega) (by omega) (by simp; omega) _ rfl ?_); intro g cap w5 hown5 hg5 hat5 hlt5))
      go_roundw
      case rel => exact ⟨k + 1, some ⟨g, 0, none⟩, cap, by omega, by go_num, rfl, (show _ from by rw [HS.out]; exact hown5), ((HBW.out.trans (HB3.out.mono hsz)).alloc (by omega) _).grown hg5 (by simp; omega) (fun j e => (HO.out.lt j e).1)⟩
      case measure => simp [intOf]; omega
    · obtain rfl : k = L.length := by omega
      go_wp2_with fail
      go_ret2
      exact ⟨B, cc, rfl, by have := HO.out; rw [List.take_of_length_le (Nat.le_refl _)] at this; exact this, HBW.out⟩
end Go.Proofs.YtpphnnijnnfngaaGreatDoor

/-
  The walk of the sky's Fits.
-/
namespace Go.Proofs.YtpphnnijnnfngaaGreatDoor
open Go.RowKit Al

/-- Is arrival k in order? -/
def arrStep (m : Nat) (t : List Trg) (k : Nat) : Bool :=
  inB (t.getD k (0, 0, 0)).1 0 ((m : Int) - 1) && ((k == 0 || decide ((t.getD (k - 1) (0, 0, 0)).1 < (t.getD k (0, 0, 0)).1)) && (inB (t.getD k (0, 0, 0)).2.1 (-1099511627776) 1099511627776 && inB (t.getD k (0, 0, 0)).2.2 0 65536))
def arrN (m : Nat) (t : List Trg) (k : Nat) : Bool := (List.range k).all (arrStep m t)
/-- Are these arrivals? -/
def arrB (m : Nat) (t : List Trg) : Bool := arrN m t t.length && decide (2 ≤ t.length)
theorem arrN_succ (m : Nat) (t : List Trg) (k : Nat) : arrN m t (k + 1) = (arrN m t k && arrStep m t k) := by
  unfold arrN
  rw [List.range_succ, List.all_append]
  simp
theorem arrB_no {m : Nat} {t : List Trg} {k : Nat} (hk : k < t.length) (h : arrStep m t k = false) : arrB m t = false := by
  have : arrN m t t.length = false := by
    unfold arrN
    rw [List.all_eq_false]
    exact ⟨k, by simpa using hk, by rw [h]; simp⟩
  unfold arrB
  rw [this]
  rfl
theorem arr_ok {m : Nat} {t : List Trg} (h : arrN m t t.length = true) : ∀ x ∈ t, ArrOk m x := by
  intro x hx
  obtain ⟨k, hk, rfl⟩ := List.getElem_of_mem hx
  have h1 := List.all_eq_true.1 h k (by simpa using hk)
  unfold arrStep at h1
  rw [show t.getD k (0, 0, 0) = t[k] by simp [hk]] at h1
  simp only [Bool.and_eq_true] at h1
  obtain ⟨a, -, b, c⟩ := h1
  have a := inB_true.1 a
  have b := inB_true.1 b
  have c := inB_true.1 c
  exact ⟨a.1, by omega, b.1, b.2, c.1, c.2⟩
/-- The first error of a network, a grid and arrivals. -/
def fitG (L : List NSi) (n : Int) (t : List Trg) : Int := if netG L n == 0 then (if arrB L.length t then 0 else 92) else netG L n
/-- The cells that fit. -/
def fitL (L : List NSi) (n : Int) (t : List Trg) (N : Nat) : List Int := if fitG L n t = 0 then pickL (fitB (sites L) t) (cellsL n N) else []
theorem netG_ok {L : List NSi} {n : Int} (hv : netG L n = 0) : 2 ≤ L.length ∧ L.length ≤ 6 ∧ 1 ≤ n ∧ n ≤ 8 := by
  have he : netE L = 0 := by
    rcases netE_cases L with h | h
    · exact h
    · unfold netG at hv; rw [h] at hv; cases hv
  have hg : inB n 1 8 = true := by
    unfold netG at hv
    rw [he] at hv
    cases hg : inB n 1 8 with
    | true => rfl
    | false => rw [hg] at hv; cases hv
  have hnb : netB L = true := by
    unfold netE at he
    cases hb : netB L with
    | true => rfl
    | false => rw [hb] at he; cases he
  unfold netB at hnb
  simp only [Bool.and_eq_true] at hnb
  have h1 := inB_true.1 hnb.1.1
  have h2 := inB_true.1 hg
  exact ⟨by omega, by omega, h2.1, h2.2⟩
def SkFiRel (m : Nat) (t : List Trg) (w : World) (i : Value) (wr : World) : Prop := ∃ k : Nat, k ≤ t.length ∧ i = .int .i64 k ∧ Hid (arrN m t k = true) ∧ Below w.heap.size w wr
def FitOut (v : Int) (l : List Int) (w : World) (e : Ending) (w' : World) : Prop := ∃ s, e = .returned (.tuple #[s, .int .i64 v]) ∧ w'.ownsRow w.heap.size 3 1 s l.length (ints l) ∧ Below w.heap.size w w'
theorem FitOut.none (v : Int) {w w' : World} (h : Below w.heap.size w w') : FitOut v [] w (.returned (.tuple #[.slice none 0 0, .int .i64 v])) w' := ⟨_, rfl, World.ownsRow_nil _ _ _ _, h⟩
end Go.Proofs.YtpphnnijnnfngaaGreatDoor

/-
  The walks of the sky's Cells, Direction and celled.
-/
namespace Go.Proofs.YtpphnnijnnfngaaGreatDoor
open Go.RowKit Al

theorem six_in {n : Int} (h1 : 1 ≤ n) (h2 : n ≤ 8) : 6 * n * n = 6 * (n * n) ∧ 6 ≤ 6 * (n * n) ∧ 6 * (n * n) ≤ 384 := by
  obtain ⟨m1, m2, m3⟩ := sq_in h1 h2
  exact ⟨Int.mul_assoc _ _ _, by omega, by omega⟩
/-- Is this a grid and one of its cells? -/
def thereB (n c : Int) : Bool := inB n 1 8 && inB c 0 (6 * (n * n) - 1)
theorem there_yes {n c : Int} (h : thereB n c = true) : 1 ≤ n ∧ n ≤ 8 ∧ 0 ≤ c ∧ c < 6 * (n * n) := by
  unfold thereB at h
  rw [Bool.and_eq_true] at h
  obtain ⟨a, b⟩ := h
  have a := inB_true.1 a
  have b := inB_true.1 b
  exact ⟨a.1, a.2, b.1, by omega⟩
def DirT (n c : Int) (w : World) (e : Ending) (w' : World) : Prop := e = .returned (.tuple #[v3 (if thereB n c then dirV n c else (0, 0, 0)), .int .i64 (if thereB n c then 0 else 91)]) ∧ Below w.heap.size w w'
set_option maxRecDepth 100000 in
set_option maxHeartbeats 4000000 in
theorem Direction_ (n c : Int) (w : World) : Calls Tryz.prog 10 #[.int .i64 n, .int .i64 c] w (DirT n c w) := by
  cases ht : thereB n c with
  | true =>
    have e : DirT n c w = fun e w' => e = .returned (.tuple #[v3 (dirV n c), .int .i64 0]) ∧ Below w.heap.size w w' := by funext e w'; unfold DirT; rw [ht]; rfl
    rw [e]
    obtain ⟨h1, h2, h3, h4⟩ := there_yes ht
    obtain ⟨k1, k2, k3⟩ := six_in h1 h2
    have s1 : wrap64 (6 * n) = 6 * n := w64 (by omega) (by omega)
    have s2 : wrap64 (6 * n * n) = 6 * n * n := w64 (by omega) (by omega)
    have s3 : wrap64 (6 * n * n - 1) = 6 * n * n - 1 := w64 (by omega) (by omega)
    have b1 : inB n 1 8 = true := inB_true.2 ⟨h1, h2⟩
    have b2 : inB c 0 (6 * n * n - 1) = true := inB_true.2 ⟨h3, by omega⟩
    have HD := Lib.hid (fun W => direction_ n c h1 h2 h3 h4 W)
    obtain ⟨d, hd⟩ : ∃ d, dirV n c = d := ⟨_, rfl⟩
    rw [hd] at HD ⊢
    obtain ⟨x, y, z⟩ := d
    clear e hd ht h1 h2 h3 h4 k1 k2 k3
    go_enter Tryz.func10, Tryz.ntmps10
    go_wp2_with (first
      | (go_at_call 30; refine (skGrid_ _ _).mono ?_; rintro e w' ⟨rfl, rfl⟩; rw [b1])
      | (go_at_call 24; refine (swithin_ _ _ _ _).mono ?_; rintro e w' ⟨rfl, rfl⟩; rw [b2]))
    refine (HD.out _).mono ?_
    rintro e w1 ⟨rfl, hb⟩
    obtain ⟨hcw, hfw⟩ := bcell hb
    have HW : Hid (Below w.heap.size w w1) := (show Below w.heap.size w _ from (by repeat (first | exact Below.refl _ _ | assumption | refine below_drewN ?_ _ | refine Below.drew ?_ | refine Below.setCell ?_ (by first | omega | (simp; done) | (simp; omega)) _ | refine Below.alloc ?_ (by first | omega | (simp; done) | (simp; omega)) _))).trans (hb.mono (by first | omega | (simp; done) | (simp; omega)))
    have p0 : w1.cell? ⟨w.heap.size, 0, none⟩ = some (.int .i64 0) := by rw [hcw _ _ (by simp)]; simp [go_sem]
    have p1 : w1.cell? ⟨w.heap.size, 1, none⟩ = some (.int .i64 0) := by rw [hcw _ _ (by simp)]; simp [go_sem]
    have p2 : w1.cell? ⟨w.heap.size, 2, none⟩ = some (.int .i64 0) := by rw [hcw _ _ (by simp)]; simp [go_sem]
    have hz := hb.size
    simp at hz
    have hz1 : w.heap.size < w1.heap.size := by omega
    have q0 : w1.frozen? ⟨w.heap.size, 0, none⟩ = false := by rw [hfw _ _ (by simp)]; simp [go_sem]
    have q1 : w1.frozen? ⟨w.heap.size, 1, none⟩ = false := by rw [hfw _ _ (by simp)]; simp [go_sem]
    have q2 : w1.frozen? ⟨w.heap.size, 2, none⟩ = false := by rw [hfw _ _ (by simp)]; simp [go_sem]
    have P0 := Lib.hid p0
    have P1 := Lib.hid p1
    have P2 := Lib.hid p2
    clear hb hcw hfw s1 s2 s3 b1 b2
    go_wp2_with fail
    refine fin3 w.heap.size (.tuple #[v3 (x, y, z), .int .i64 0]) rfl (fun W e0 e1 e2 => by simp [results, Tryz.results10, go_sem, e0, e1, e2]) P0.out P1.out P2.out ⟨rfl, (((HW.out.setCell (by simp) _).setCell (by simp) _).setCell (by simp) _)⟩
  | false =>
    have e : DirT n c w = fun e w' => e = .returned (.tuple #[v3 (0, 0, 0), .int .i64 91]) ∧ Below w.heap.size w w' := by funext e w'; unfold DirT; rw [ht]; rfl
    rw [e]
    clear e
    have P0 : Hid ((w.alloc (.cells #[.int .i64 0, .int .i64 0, .int .i64 0] 30)).cell? ⟨w.heap.size, 0, none⟩ = some (.int .i64 0)) := by show _ = _; simp [go_sem]
    have P1 : Hid ((w.alloc (.cells #[.int .i64 0, .int .i64 0, .int .i64 0] 30)).cell? ⟨w.heap.size, 1, none⟩ = some (.int .i64 0)) := by show _ = _; simp [go_sem]
    have P2 : Hid ((w.alloc (.cells #[.int .i64 0, .int .i64 0, .int .i64 0] 30)).cell? ⟨w.heap.size, 2, none⟩ = some (.int .i64 0)) := by show _ = _; simp [go_sem]
    have HW : Hid (Below w.heap.size w (w.alloc (.cells #[.int .i64 0, .int .i64 0, .int .i64 0] 30))) := (Below.refl _ _).alloc (Nat.le_refl _) _
    cases b1 : inB n 1 8 with
    | false =>
      clear ht
      go_enter Tryz.func10, Tryz.ntmps10
      go_wp2_with (go_at_call 30; refine (skGrid_ _ _).mono ?_; rintro e w' ⟨rfl, rfl⟩; rw [b1])
      refine bodyPost_ret (v := .tuple #[v3 (0, 0, 0), .int .i64 91]) (by simp [results, Tryz.results10, go_sem]) rfl ⟨rfl, HW.out⟩
    | true =>
      have h := inB_true.1 b1
      obtain ⟨k1, k2, k3⟩ := six_in h.1 h.2
      have s1 : wrap64 (6 * n) = 6 * n := w64 (by omega) (by omega)
      have s2 : wrap64 (6 * n * n) = 6 * n * n := w64 (by omega) (by omega)
      have s3 : wrap64 (6 * n * n - 1) = 6 * n * n - 1 := w64 (by omega) (by omega)
      have b2 : inB c 0 (6 * n * n - 1) = false := by unfold thereB at ht; rw [b1, ← k1] at ht; exact ht
      clear ht h k1 k2 k3
      go_enter Tryz.func10, Tryz.ntmps10
      go_wp2_with (first
        | (go_at_call 30; refine (skGrid_ _ _).mono ?_; rintro e w' ⟨rfl, rfl⟩; rw [b1])
        | (go_at_call 24; refine (swithin_ _ _ _ _).mono ?_; rintro e w' ⟨rfl, rfl⟩; rw [b2]))
      refine bodyPost_ret (v := .tuple #[v3 (0, 0, 0), .int .i64 91]) (by simp [results, Tryz.results10, go_sem]) rfl ⟨rfl, HW.out⟩
end Go.Proofs.YtpphnnijnnfngaaGreatDoor

/-
  Cells and directions of a grid, plainly (for SkyHome).
-/
namespace Go.Proofs.YtpphnnijnnfngaaGreatDoor
open Go.RowKit Al Cell9

/-- A cell's face and place, and its direction. -/
theorem dir_parts {n c : Int} (h1 : 1 ≤ n) (h0 : 0 ≤ c) (h6 : c < 6 * (n * n)) : ∃ f i j : Int, 0 ≤ f ∧ f ≤ 5 ∧ 0 ≤ i ∧ i < n ∧ 0 ≤ j ∧ j < n ∧ c = (f * n + i) * n + j ∧ dirV n c = dirF n f i j := by
  have hnn : 1 ≤ n * n := by have := Int.mul_le_mul h1 h1 (by omega) (by omega); omega
  obtain ⟨f1, f2⟩ := face_in h0 hnn h6
  obtain ⟨g1, g2⟩ := tdiv_le h0 h1
  obtain ⟨i1, i2⟩ := tmod_in g1 h1
  obtain ⟨j1, j2⟩ := tmod_in h0 h1
  refine ⟨c.tdiv (n * n), (c.tdiv n).tmod n, c.tmod n, f1, f2, i1, i2, j1, j2, ?_, rfl⟩
  have e1 : c.tdiv (n * n) = c.tdiv n / n := by rw [Int.tdiv_eq_ediv_of_nonneg h0, Int.tdiv_eq_ediv_of_nonneg h0, Int.ediv_ediv_of_nonneg (by omega)]
  have e2 : (c.tdiv n).tmod n = c.tdiv n % n := Int.tmod_eq_emod_of_nonneg g1
  have e3 : c.tdiv n = c / n := Int.tdiv_eq_ediv_of_nonneg h0
  have e4 : c.tmod n = c % n := Int.tmod_eq_emod_of_nonneg h0
  rw [e1, e2, e4]
  have a1 := Int.emod_add_mul_ediv (c.tdiv n) n
  have a2 := Int.emod_add_mul_ediv c n
  rw [← e3] at a2
  have a3 : c.tdiv n / n * n + c.tdiv n % n = c.tdiv n := by rw [Int.mul_comm (c.tdiv n / n) n]; omega
  rw [a3, Int.mul_comm]
  omega
theorem dir_of {n f i j : Int} (h1 : 1 ≤ n) (hf0 : 0 ≤ f) (hf : f ≤ 5) (hi0 : 0 ≤ i) (hi : i < n) (hj0 : 0 ≤ j) (hj : j < n) : 0 ≤ (f * n + i) * n + j ∧ (f * n + i) * n + j < 6 * (n * n) ∧ dirV n ((f * n + i) * n + j) = dirF n f i j := by
  have hfn : 0 ≤ f * n := Int.mul_nonneg hf0 (by omega)
  have hfi : 0 ≤ f * n + i := by omega
  have hc : 0 ≤ (f * n + i) * n := Int.mul_nonneg hfi (by omega)
  have hfn2 : f * n ≤ 5 * n := Int.mul_le_mul_of_nonneg_right hf (by omega)
  have hup : (f * n + i) * n ≤ (6 * n - 1) * n := Int.mul_le_mul_of_nonneg_right (by omega) (by omega)
  have e6 : (6 * n - 1) * n = 6 * (n * n) - n := by rw [Int.sub_mul, Int.mul_assoc, Int.one_mul]
  refine ⟨by omega, by omega, ?_⟩
  have d1 : ((f * n + i) * n + j).tdiv n = f * n + i := by
    rw [Int.tdiv_eq_ediv_of_nonneg (by omega), Int.add_comm, Int.add_mul_ediv_right _ _ (by omega), Int.ediv_eq_zero_of_lt hj0 hj, Int.zero_add]
  have d2 : ((f * n + i) * n + j).tmod n = j := by
    rw [Int.tmod_eq_emod_of_nonneg (by omega), Int.add_comm, Int.add_mul_emod_self_right, Int.emod_eq_of_lt hj0 hj]
  have d3 : (f * n + i).tmod n = i := by
    rw [Int.tmod_eq_emod_of_nonneg hfi, Int.add_comm, Int.add_mul_emod_self_right, Int.emod_eq_of_lt hi0 hi]
  have d5 : ((f * n + i) * n + j) / n = f * n + i := by
    have d6 := d1
    rw [Int.tdiv_eq_ediv_of_nonneg (by omega)] at d6
    exact d6
  have d4 : ((f * n + i) * n + j).tdiv (n * n) = f := by
    rw [Int.tdiv_eq_ediv_of_nonneg (by omega), ← Int.ediv_ediv_of_nonneg (by omega), d5, Int.add_comm, Int.add_mul_ediv_right _ _ (by omega), Int.ediv_eq_zero_of_lt hi0 hi, Int.zero_add]
  unfold dirV
  rw [d4, d1, d2, d3]
/-- The cell of a multiple of a cell's direction. -/
theorem home_cell {n c k : Int} (ht : thereB n c = true) (hk : 1 ≤ k) : cellV n (k * (dirV n c).1) (k * (dirV n c).2.1) (k * (dirV n c).2.2) = c := by
  obtain ⟨h1, h8, h0, h6⟩ := there_yes ht
  obtain ⟨f, i, j, f0, f5, i0, i1, j0, j1, hc, hd⟩ := dir_parts h1 h0 h6
  obtain ⟨q0, q1, q2, q3, q4, q5⟩ := home (n := n) (k := k) (i := i) (j := j) h1 hk i0 i1 j0 j1
  rw [hd, hc]
  obtain rfl | rfl | rfl | rfl | rfl | rfl : f = 0 ∨ f = 1 ∨ f = 2 ∨ f = 3 ∨ f = 4 ∨ f = 5 := by omega
  · exact q0
  · exact q1
  · exact q2
  · exact q3
  · exact q4
  · exact q5
/-- A direction is short, and not null. -/
theorem dir_in {n c : Int} (ht : thereB n c = true) : (-8 ≤ (dirV n c).1 ∧ (dirV n c).1 ≤ 8) ∧ (-8 ≤ (dirV n c).2.1 ∧ (dirV n c).2.1 ≤ 8) ∧ (-8 ≤ (dirV n c).2.2 ∧ (dirV n c).2.2 ≤ 8) ∧ ¬ ((dirV n c).1 = 0 ∧ (dirV n c).2.1 = 0 ∧ (dirV n c).2.2 = 0) := by
  obtain ⟨h1, h8, h0, h6⟩ := there_yes ht
  obtain ⟨f, i, j, f0, f5, i0, i1, j0, j1, hc, hd⟩ := dir_parts h1 h0 h6
  rw [hd]
  obtain rfl | rfl | rfl | rfl | rfl | rfl : f = 0 ∨ f = 1 ∨ f = 2 ∨ f = 3 ∨ f = 4 ∨ f = 5 := by omega
  · show (-8 ≤ n ∧ n ≤ 8) ∧ (-8 ≤ 2 * i + 1 - n ∧ 2 * i + 1 - n ≤ 8) ∧ (-8 ≤ 2 * j + 1 - n ∧ 2 * j + 1 - n ≤ 8) ∧ ¬ (n = 0 ∧ 2 * i + 1 - n = 0 ∧ 2 * j + 1 - n = 0); omega
  · show (-8 ≤ -n ∧ -n ≤ 8) ∧ (-8 ≤ 2 * i + 1 - n ∧ 2 * i + 1 - n ≤ 8) ∧ (-8 ≤ 2 * j + 1 - n ∧ 2 * j + 1 - n ≤ 8) ∧ ¬ (-n = 0 ∧ 2 * i + 1 - n = 0 ∧ 2 * j + 1 - n = 0); omega
  · show (-8 ≤ 2 * i + 1 - n ∧ 2 * i + 1 - n ≤ 8) ∧ (-8 ≤ n ∧ n ≤ 8) ∧ (-8 ≤ 2 * j + 1 - n ∧ 2 * j + 1 - n ≤ 8) ∧ ¬ (2 * i + 1 - n = 0 ∧ n = 0 ∧ 2 * j + 1 - n = 0); omega
  · show (-8 ≤ 2 * i + 1 - n ∧ 2 * i + 1 - n ≤ 8) ∧ (-8 ≤ -n ∧ -n ≤ 8) ∧ (-8 ≤ 2 * j + 1 - n ∧ 2 * j + 1 - n ≤ 8) ∧ ¬ (2 * i + 1 - n = 0 ∧ -n = 0 ∧ 2 * j + 1 - n = 0); omega
  · show (-8 ≤ 2 * i + 1 - n ∧ 2 * i + 1 - n ≤ 8) ∧ (-8 ≤ 2 * j + 1 - n ∧ 2 * j + 1 - n ≤ 8) ∧ (-8 ≤ n ∧ n ≤ 8) ∧ ¬ (2 * i + 1 - n = 0 ∧ 2 * j + 1 - n = 0 ∧ n = 0); omega
  · show (-8 ≤ 2 * i + 1 - n ∧ 2 * i + 1 - n ≤ 8) ∧ (-8 ≤ 2 * j + 1 - n ∧ 2 * j + 1 - n ≤ 8) ∧ (-8 ≤ -n ∧ -n ≤ 8) ∧ ¬ (2 * i + 1 - n = 0 ∧ 2 * j + 1 - n = 0 ∧ -n = 0); omega
theorem cellV_cases (n a b c : Int) : (cellV n a b c = ((0 + ng a) * n + pl n (ab a) b) * n + pl n (ab a) c ∧ ab b ≤ ab a ∧ ab c ≤ ab a) ∨ (cellV n a b c = ((2 + ng b) * n + pl n (ab b) a) * n + pl n (ab b) c ∧ ab a ≤ ab b ∧ ab c ≤ ab b) ∨
    (cellV n a b c = ((4 + ng c) * n + pl n (ab c) a) * n + pl n (ab c) b ∧ ab a ≤ ab c ∧ ab b ≤ ab c) := by
  unfold cellV
  by_cases h : ab a < ab b
  · simp only [if_pos h]
    by_cases h2 : ab b < ab c
    · simp only [if_pos h2]; exact .inr (.inr ⟨trivial, by omega, by omega⟩)
    · simp only [if_neg h2]; exact .inr (.inl ⟨trivial, by omega, by omega⟩)
  · simp only [if_neg h]
    by_cases h2 : ab a < ab c
    · simp only [if_pos h2]; exact .inr (.inr ⟨trivial, by omega, by omega⟩)
    · simp only [if_neg h2]; exact .inl ⟨trivial, by omega, by omega⟩
/-- The cell of a vector is one of the grid; its direction lies on the vector's side. -/
theorem cell_side {n a b c : Int} (h1 : 1 ≤ n) (hz : ¬ (a = 0 ∧ b = 0 ∧ c = 0)) : 0 ≤ cellV n a b c ∧ cellV n a b c < 6 * (n * n) ∧ 0 < (dirV n (cellV n a b c)).1 * a + (dirV n (cellV n a b c)).2.1 * b + (dirV n (cellV n a b c)).2.2 * c := by
  have A := ab_le a
  have B := ab_le b
  have C := ab_le c
  rcases cellV_cases n a b c with ⟨e2, e3, e4⟩ | ⟨e2, e3, e4⟩ | ⟨e2, e3, e4⟩
  · obtain ⟨m, hm⟩ : ∃ m, ab a = m := ⟨_, rfl⟩
    rw [hm] at e2 e3 e4
    have hm0 : 0 < m := by
      rcases Int.lt_or_le 0 m with h | h
      · exact h
      · exact absurd ⟨by omega, by omega, by omega⟩ hz
    have p := pl_in h1 hm0 (show -m ≤ b by omega)
    have q := pl_in h1 hm0 (show -m ≤ c by omega)
    have sp := side_pos h1 hm0 (show -m ≤ b by omega) (show b ≤ m by omega) (show -m ≤ c by omega) (show c ≤ m by omega)
    by_cases hs : a < 0
    · have hng : ng a = 1 := by unfold ng; omega
      rw [hng] at e2
      obtain ⟨r1, r2, r3⟩ := dir_of (n := n) (f := 0 + 1) h1 (by omega) (by omega) p.1 p.2 q.1 q.2
      rw [← e2] at r1 r2 r3
      refine ⟨r1, r2, ?_⟩
      rw [r3]
      show 0 < -n * a + (2 * pl n m b + 1 - n) * b + (2 * pl n m c + 1 - n) * c
      have e5 : -n * a = n * m := by rw [← hm, Int.neg_mul, ← Int.mul_neg]; congr 1; unfold ab; omega
      rw [e5]
      omega
    · have hng : ng a = 0 := by unfold ng; omega
      rw [hng] at e2
      obtain ⟨r1, r2, r3⟩ := dir_of (n := n) (f := 0 + 0) h1 (by omega) (by omega) p.1 p.2 q.1 q.2
      rw [← e2] at r1 r2 r3
      refine ⟨r1, r2, ?_⟩
      rw [r3]
      show 0 < n * a + (2 * pl n m b + 1 - n) * b + (2 * pl n m c + 1 - n) * c
      have e5 : n * a = n * m := by rw [← hm]; congr 1; unfold ab; omega
      rw [e5]
      omega
  · obtain ⟨m, hm⟩ : ∃ m, ab b = m := ⟨_, rfl⟩
    rw [hm] at e2 e3 e4
    have hm0 : 0 < m := by
      rcases Int.lt_or_le 0 m with h | h
      · exact h
      · exact absurd ⟨by omega, by omega, by omega⟩ hz
    have p := pl_in h1 hm0 (show -m ≤ a by omega)
    have q := pl_in h1 hm0 (show -m ≤ c by omega)
    have sp := side_pos h1 hm0 (show -m ≤ a by omega) (show a ≤ m by omega) (show -m ≤ c by omega) (show c ≤ m by omega)
    by_cases hs : b < 0
    · have hng : ng b = 1 := by unfold ng; omega
      rw [hng] at e2
      obtain ⟨r1, r2, r3⟩ := dir_of (n := n) (f := 2 + 1) h1 (by omega) (by omega) p.1 p.2 q.1 q.2
      rw [← e2] at r1 r2 r3
      refine ⟨r1, r2, ?_⟩
      rw [r3]
      show 0 < (2 * pl n m a + 1 - n) * a + -n * b + (2 * pl n m c + 1 - n) * c
      have e5 : -n * b = n * m := by rw [← hm, Int.neg_mul, ← Int.mul_neg]; congr 1; unfold ab; omega
      rw [e5]
      omega
    · have hng : ng b = 0 := by unfold ng; omega
      rw [hng] at e2
      obtain ⟨r1, r2, r3⟩ := dir_of (n := n) (f := 2 + 0) h1 (by omega) (by omega) p.1 p.2 q.1 q.2
      rw [← e2] at r1 r2 r3
      refine ⟨r1, r2, ?_⟩
      rw [r3]
      show 0 < (2 * pl n m a + 1 - n) * a + n * b + (2 * pl n m c + 1 - n) * c
      have e5 : n * b = n * m := by rw [← hm]; congr 1; unfold ab; omega
      rw [e5]
      omega
  · obtain ⟨m, hm⟩ : ∃ m, ab c = m := ⟨_, rfl⟩
    rw [hm] at e2 e3 e4
    have hm0 : 0 < m := by
      rcases Int.lt_or_le 0 m with h | h
      · exact h
      · exact absurd ⟨by omega, by omega, by omega⟩ hz
    have p := pl_in h1 hm0 (show -m ≤ a by omega)
    have q := pl_in h1 hm0 (show -m ≤ b by omega)
    have sp := side_pos h1 hm0 (show -m ≤ a by omega) (show a ≤ m by omega) (show -m ≤ b by omega) (show b ≤ m by omega)
    by_cases hs : c < 0
    · have hng : ng c = 1 := by unfold ng; omega
      rw [hng] at e2
      obtain ⟨r1, r2, r3⟩ := dir_of (n := n) (f := 4 + 1) h1 (by omega) (by omega) p.1 p.2 q.1 q.2
      rw [← e2] at r1 r2 r3
      refine ⟨r1, r2, ?_⟩
      rw [r3]
      show 0 < (2 * pl n m a + 1 - n) * a + (2 * pl n m b + 1 - n) * b + -n * c
      have e5 : -n * c = n * m := by rw [← hm, Int.neg_mul, ← Int.mul_neg]; congr 1; unfold ab; omega
      rw [e5]
      omega
    · have hng : ng c = 0 := by unfold ng; omega
      rw [hng] at e2
      obtain ⟨r1, r2, r3⟩ := dir_of (n := n) (f := 4 + 0) h1 (by omega) (by omega) p.1 p.2 q.1 q.2
      rw [← e2] at r1 r2 r3
      refine ⟨r1, r2, ?_⟩
      rw [r3]
      show 0 < (2 * pl n m a + 1 - n) * a + (2 * pl n m b + 1 - n) * b + n * c
      have e5 : n * c = n * m := by rw [← hm]; congr 1; unfold ab; omega
      rw [e5]
      omega
end Go.Proofs.YtpphnnijnnfngaaGreatDoor
