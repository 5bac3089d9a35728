/-
  The walks of the sky's siteOf, CheckNet and netted.
-/
import Derived.Test.YtmpbhngjkbidcaaGreatDoorW05
import Derived.Laws.StructEq
import Derived.Deep.AppendLies
namespace Go.Proofs.YtmpbhngjkbidcaaGreatDoor
open Go.RowKit Al

theorem run_eql_v3 (a b c x y z : Int) (w : World) : (Op.equal 110 (.agg #[.int .i64 a, .int .i64 b, .int .i64 c]) (.agg #[.int .i64 x, .int .i64 y, .int .i64 z])).run Tryz.prog w = .ok (a == x && (b == y && c == z)) w := by
  have hp : ∀ (i : Nat) (v : Value) (cs : Array Value), cs[i]? = some v → (part 3 cs i).run Tryz.prog w = .ok v w := by
    intro i v cs h
    unfold part
    have : (isAgg 3).run Tryz.prog w = .ok false w := by kernel_rfl
    simp only [Sem.run_bind, this, Result.andThen_ok, Bool.false_eq_true, if_false, h, Sem.run_pure]
  have hs : (sizeOf 3).run Tryz.prog w = .ok 1 w := by kernel_rfl
  unfold Op.equal Op.maxDepth
  rw [show 10000 = 9998 + 1 + 1 from rfl]
  unfold Op.equalIn
  simp only [Sem.run_bind, run_underlying Tryz.underlying110, Result.andThen_ok, hs]
  have hq : ∀ (p q : Int), (Op.equalIn 9999 3 (.int .i64 p) (.int .i64 q)).run Tryz.prog w = .ok (p == q) w := fun p q => run_equalIn_int w 9998 3 .i64 .i64 p q Tryz.underlying3
  rw [Std.Legacy.Range.forIn_eq_forIn_range']
  simp only [Std.Legacy.Range.size, Nat.sub_zero, Nat.add_sub_cancel, Nat.div_one, show List.range' 0 3 1 = [0, 1, 2] from rfl, List.forIn_cons, List.forIn_nil, Sem.run_bind, Nat.mul_one]
  have p0 := hp 0 _ #[.int .i64 a, .int .i64 b, .int .i64 c] rfl
  have p1 := hp 1 _ #[.int .i64 a, .int .i64 b, .int .i64 c] rfl
  have p2 := hp 2 _ #[.int .i64 a, .int .i64 b, .int .i64 c] rfl
  have q0 := hp 0 _ #[.int .i64 x, .int .i64 y, .int .i64 z] rfl
  have q1 := hp 1 _ #[.int .i64 x, .int .i64 y, .int .i64 z] rfl
  have q2 := hp 2 _ #[.int .i64 x, .int .i64 y, .int .i64 z] rfl
  have h0 := hq a x
  have h1 := hq b y
  have h2 := hq c z
  clear hp hq hs
  generalize (a == x) = e0 at h0 ⊢
  generalize (b == y) = e1 at h1 ⊢
  generalize (c == z) = e2 at h2 ⊢
  simp only [List.getElem_toArray, List.getElem_cons_zero, List.getElem_cons_succ] at p0 p1 p2 q0 q1 q2
  cases e0 <;> cases e1 <;> cases e2 <;> simp [h0, h1, h2, p0, p1, p2, q0, q1, q2, Result.andThen_ok, Sem.run_pure]
theorem run_neq_v3 (a b c x y z : Int) (w : World) : (binOp .neq 110 (.agg #[.int .i64 a, .int .i64 b, .int .i64 c]) (.agg #[.int .i64 x, .int .i64 y, .int .i64 z])).run Tryz.prog w = .ok (.bool (!(a == x && (b == y && c == z)))) w := by
  simp only [binOp, Sem.run_bind, run_eql_v3, Result.andThen_ok, Sem.run_pure]
set_option maxRecDepth 100000 in
theorem siteOf_ (x : NSi) (w : World) : Calls Tryz.prog 76 #[x.val] w fun e w' => e = .returned x.s.val ∧ Below w.heap.size w w' := by
  obtain ⟨n, ⟨a1, a2, a3⟩, ⟨a4, a5, a6⟩, ⟨a7, a8, a9⟩⟩ := x
  go_enter Tryz.func76, Tryz.ntmps76
  go_wp2_with fail
  refine bodyPost_ret (v := Site.val ⟨(a1, a2, a3), (a4, a5, a6), (a7, a8, a9)⟩) (by simp [results, Tryz.results76, go_sem]) rfl ?_
  exact ⟨rfl, (by repeat (first | exact Below.refl _ _ | assumption | refine below_drewN ?_ _ | refine Below.drew ?_ | refine Below.setCell ?_ (by first | omega | (simp; done) | (simp; omega)) _ | refine Below.alloc ?_ (by first | omega | (simp; done) | (simp; omega)) _))⟩
/-- Is a vector another one than zero? -/
def nzB (v : V3) : Bool := !(v.1 == 0 && (v.2.1 == 0 && v.2.2 == 0))
/-- Is a site in order? -/
def siteOkB (s : Site) : Bool := mostB s.p 65536 && (mostB s.u 100 && (mostB s.v 100 && (nzB s.u && nzB s.v)))
/-- Is a network in order? -/
def netB (L : List NSi) : Bool := (inB L.length 2 6 && namedB (L.map fun x => x.nm.data.toList)) && L.all fun x => siteOkB x.s
def netE (L : List NSi) : Int := if netB L then 0 else 90
def cnRel (L : List NSi) (b : Bool) (w : World) (o i : Value) (wr : World) : Prop := ∃ k : Nat, k ≤ L.length ∧ i = .int .i64 k ∧ o = .bool (b && (L.take k).all fun x => siteOkB x.s) ∧ Below w.heap.size w wr
set_option maxRecDepth 100000 in
set_option maxHeartbeats 8000000 in
theorem checkNet_ (L : List NSi) (A : Option Addr) (c : Nat) (w : World) (hL : Sl w w.heap.size 10 A L.length c (nsCells L)) (hm : ∀ x ∈ L, x.nm.size ≤ maxLen) :
    Calls Tryz.prog 74 #[.slice A L.length c] w fun e w' => e = .returned (.int .i64 (netE L)) ∧ Below w.heap.size w w' := by
  have hl : L.length ≤ maxLen := Nat.le_trans hL.cap hL.max
  unfold maxLen at hl
  have HL := Lib.hid hL
  have HM := Lib.hid hm
  clear hL hm
  obtain ⟨nb, hnb⟩ : ∃ nb, namedB (L.map fun x => x.nm.data.toList) = nb := ⟨_, rfl⟩
  obtain ⟨ib, hib⟩ : ∃ ib, inB L.length 2 6 = ib := ⟨_, rfl⟩
  have HNB := Lib.hid hnb
  have HIB := Lib.hid hib
  clear hnb hib
  cases ib with
  | false =>
    go_enter Tryz.func74, Tryz.ntmps74
    go_wp2_with (go_at_call 38; refine (swithin_ _ _ _ _).mono ?_; rintro e w' ⟨rfl, rfl⟩; rw [HIB.out])
    go_loopw [3, 16] (fun o i wr => cnRel L false w o i wr) (fun _ i _ => L.length - (intOf i).toNat)
    case atStart => exact ⟨0, Nat.zero_le _, rfl, by simp, (by repeat (first | exact Below.refl _ _ | assumption | refine below_drewN ?_ _ | refine Below.drew ?_ | refine Below.setCell ?_ (by first | omega | (simp; done) | (simp; omega)) _ | refine Below.alloc ?_ (by first | omega | (simp; done) | (simp; omega)) _))⟩
    case round =>
      obtain ⟨k, hk, rfl, rfl, hbw⟩ := hrel
      have HBW := Lib.hid hbw
      have hsz := hbw.size
      clear hbw
      by_cases hlt : k < L.length
      · obtain ⟨tb, to, rfl, htb, c0, c1, c2, c3, c4, c5, c6, c7, c8, c9⟩ := (HL.out.below HBW.out).ns_at hlt
        have hsn : (false && (L.take (k + 1)).all fun x => siteOkB x.s) = ((false && (L.take k).all fun x => siteOkB x.s) && siteOkB L[k].s) := by rw [all_take_succ _ hlt, Bool.and_assoc]
        have HS := Lib.hid hsn
        obtain ⟨X, hX⟩ : ∃ X, L[k] = X := ⟨_, rfl⟩
        rw [hX] at c0 c1 c2 c3 c4 c5 c6 c7 c8 c9 HS
        have hlt' : (k : Int) < (L.length : Int) := by omega
        have htb2 : tb < wr.heap.size := by omega
        obtain ⟨q, hq⟩ : ∃ q, (false && (L.take k).all fun x => siteOkB x.s) = q := ⟨_, rfl⟩
        rw [hq] at HS ⊢
        clear hX hsn hq
        go_wp2_with fail
        refine (siteOf_ X _).mono ?_
        rintro e w2 ⟨rfl, hb⟩
        have hb2 : Below wr.heap.size wr w2 := (show Below wr.heap.size wr _ from (by repeat (first | exact Below.refl _ _ | assumption | refine below_drewN ?_ _ | refine Below.drew ?_ | refine Below.setCell ?_ (by first | omega | (simp; done) | (simp; omega)) _ | refine Below.alloc ?_ (by first | omega | (simp; done) | (simp; omega)) _))).trans (hb.mono (by simp))
        have hz2 := hb2.size
        clear hb
        obtain ⟨nm, ⟨⟨x1, x2, x3⟩, ⟨y1, y2, y3⟩, ⟨z1, z2, z3⟩⟩⟩ := X
        have HB2 : Hid (Below wr.heap.size wr (w2.alloc (.cells #[.int .i64 x1, .int .i64 x2, .int .i64 x3, .int .i64 y1, .int .i64 y2, .int .i64 y3, .int .i64 z1, .int .i64 z2, .int .i64 z3] 113))) := (by repeat (first | exact Below.refl _ _ | assumption | refine below_drewN ?_ _ | refine Below.drew ?_ | refine Below.setCell ?_ (by first | omega | (simp; done) | (simp; omega)) _ | refine Below.alloc ?_ (by first | omega | (simp; done) | (simp; omega)) _))
        have S9 : Hid (∀ W, Below (w2.heap.size + 1) (w2.alloc (.cells #[.int .i64 x1, .int .i64 x2, .int .i64 x3, .int .i64 y1, .int .i64 y2, .int .i64 y3, .int .i64 z1, .int .i64 z2, .int .i64 z3] 113)) W → W.cell? ⟨w2.heap.size, 3, none⟩ = some (.int .i64 y1) ∧ W.cell? ⟨w2.heap.size, 4, none⟩ = some (.int .i64 y2) ∧ W.cell? ⟨w2.heap.size, 5, none⟩ = some (.int .i64 y3) ∧ W.cell? ⟨w2.heap.size, 6, none⟩ = some (.int .i64 z1) ∧ W.cell? ⟨w2.heap.size, 7, none⟩ = some (.int .i64 z2) ∧ W.cell? ⟨w2.heap.size, 8, none⟩ = some (.int .i64 z3)) := fun W h =>
          ⟨(h.cell (p := ⟨w2.heap.size, 3, none⟩) (Nat.lt_succ_self _)).trans (by simp [go_sem]), (h.cell (p := ⟨w2.heap.size, 4, none⟩) (Nat.lt_succ_self _)).trans (by simp [go_sem]), (h.cell (p := ⟨w2.heap.size, 5, none⟩) (Nat.lt_succ_self _)).trans (by simp [go_sem]),
            (h.cell (p := ⟨w2.heap.size, 6, none⟩) (Nat.lt_succ_self _)).trans (by simp [go_sem]), (h.cell (p := ⟨w2.heap.size, 7, none⟩) (Nat.lt_succ_self _)).trans (by simp [go_sem]), (h.cell (p := ⟨w2.heap.size, 8, none⟩) (Nat.lt_succ_self _)).trans (by simp [go_sem])⟩
        clear hb2
        have hsx : siteOkB ⟨(x1, x2, x3), (y1, y2, y3), (z1, z2, z3)⟩ = (mostB (x1, x2, x3) 65536 && (mostB (y1, y2, y3) 100 && (mostB (z1, z2, z3) 100 && (nzB (y1, y2, y3) && nzB (z1, z2, z3))))) := rfl
        rw [show (NSi.mk nm ⟨(x1, x2, x3), (y1, y2, y3), (z1, z2, z3)⟩).s = ⟨(x1, x2, x3), (y1, y2, y3), (z1, z2, z3)⟩ from rfl, hsx] at HS
        clear hsx
        obtain ⟨n1, hn1⟩ : ∃ n1, nzB (y1, y2, y3) = n1 := ⟨_, rfl⟩
        obtain ⟨n2, hn2⟩ : ∃ n2, nzB (z1, z2, z3) = n2 := ⟨_, rfl⟩
        rw [hn1, hn2] at HS
        have HN1 : Hid (∀ W, (Op.equalIn 10000 110 (.agg #[.int .i64 y1, .int .i64 y2, .int .i64 y3]) (.agg #[.int .i64 0, .int .i64 0, .int .i64 0])).run Tryz.prog W = .ok (!n1) W) := fun W => (run_eql_v3 _ _ _ _ _ _ W).trans (by rw [← hn1]; unfold nzB; simp)
        have HN2 : Hid (∀ W, (Op.equalIn 10000 110 (.agg #[.int .i64 z1, .int .i64 z2, .int .i64 z3]) (.agg #[.int .i64 0, .int .i64 0, .int .i64 0])).run Tryz.prog W = .ok (!n2) W) := fun W => (run_eql_v3 _ _ _ _ _ _ W).trans (by rw [← hn2]; unfold nzB; simp)
        clear hn1 hn2
        cases q with
        | false =>
          go_wp2_with fail
          go_roundw
          case rel => exact ⟨k + 1, by omega, by go_num, (by rw [HS.out]; first | rfl | simp), HBW.out.trans (HB2.out.mono hsz)⟩
          case measure => simp [intOf]; omega
        | true =>
          go_wp2_with fail
          refine (most_ (x1, x2, x3) 65536 _ (w64 (by decide) (by decide))).mono ?_
          rintro e w3 ⟨rfl, hb⟩
          obtain ⟨d3, d4, d5, d6, d7, d8⟩ := S9.out w3 ((show Below (w2.heap.size + 1) (w2.alloc (.cells #[.int .i64 x1, .int .i64 x2, .int .i64 x3, .int .i64 y1, .int .i64 y2, .int .i64 y3, .int .i64 z1, .int .i64 z2, .int .i64 z3] 113)) _ from Below.refl _ _).trans (hb.mono (by first | omega | (simp; done) | (simp; omega))))
          have H9 : Hid (Below (w2.heap.size + 1) (w2.alloc (.cells #[.int .i64 x1, .int .i64 x2, .int .i64 x3, .int .i64 y1, .int .i64 y2, .int .i64 y3, .int .i64 z1, .int .i64 z2, .int .i64 z3] 113)) w3) := (show Below (w2.heap.size + 1) (w2.alloc (.cells #[.int .i64 x1, .int .i64 x2, .int .i64 x3, .int .i64 y1, .int .i64 y2, .int .i64 y3, .int .i64 z1, .int .i64 z2, .int .i64 z3] 113)) _ from Below.refl _ _).trans (hb.mono (by first | omega | (simp; done) | (simp; omega)))
          have hz3 := hb.size
          try simp at hz3
          clear hb
          obtain ⟨m, hm⟩ : ∃ m, mostB (x1, x2, x3) 65536 = m := ⟨_, rfl⟩
          rw [hm] at HS ⊢
          clear hm
          cases m with
          | false =>
            go_wp2_with fail
            go_roundw
            case rel => exact ⟨k + 1, by omega, by go_num, (by rw [HS.out]; first | rfl | simp), HBW.out.trans ((HB2.out.trans (H9.out.mono (by omega))).mono hsz)⟩
            case measure => simp [intOf]; omega
          | true =>
            go_wp2_with fail
            refine (most_ (y1, y2, y3) 100 _ (w64 (by decide) (by decide))).mono ?_
            rintro e w3 ⟨rfl, hb⟩
            obtain ⟨d3, d4, d5, d6, d7, d8⟩ := S9.out w3 (H9.out.trans (hb.mono (by first | omega | (simp; done) | (simp; omega))))
            have H9 : Hid (Below (w2.heap.size + 1) (w2.alloc (.cells #[.int .i64 x1, .int .i64 x2, .int .i64 x3, .int .i64 y1, .int .i64 y2, .int .i64 y3, .int .i64 z1, .int .i64 z2, .int .i64 z3] 113)) w3) := H9.out.trans (hb.mono (by first | omega | (simp; done) | (simp; omega)))
            have hz3 := hb.size
            try simp at hz3
            clear hb
            obtain ⟨m, hm⟩ : ∃ m, mostB (y1, y2, y3) 100 = m := ⟨_, rfl⟩
            rw [hm] at HS ⊢
            clear hm
            cases m with
            | false =>
              go_wp2_with fail
              go_roundw
              case rel => exact ⟨k + 1, by omega, by go_num, (by rw [HS.out]; first | rfl | simp), HBW.out.trans ((HB2.out.trans (H9.out.mono (by omega))).mono hsz)⟩
              case measure => simp [intOf]; omega
            | true =>
              go_wp2_with fail
              refine (most_ (z1, z2, z3) 100 _ (w64 (by decide) (by decide))).mono ?_
              rintro e w3 ⟨rfl, hb⟩
              obtain ⟨d3, d4, d5, d6, d7, d8⟩ := S9.out w3 (H9.out.trans (hb.mono (by first | omega | (simp; done) | (simp; omega))))
              have H9 : Hid (Below (w2.heap.size + 1) (w2.alloc (.cells #[.int .i64 x1, .int .i64 x2, .int .i64 x3, .int .i64 y1, .int .i64 y2, .int .i64 y3, .int .i64 z1, .int .i64 z2, .int .i64 z3] 113)) w3) := H9.out.trans (hb.mono (by first | omega | (simp; done) | (simp; omega)))
              have hz3 := hb.size
              try simp at hz3
              clear hb
              obtain ⟨m, hm⟩ : ∃ m, mostB (z1, z2, z3) 100 = m := ⟨_, rfl⟩
              rw [hm] at HS ⊢
              clear hm
              cases m with
              | false =>
                go_wp2_with fail
                go_roundw
                case rel => exact ⟨k + 1, by omega, by go_num, (by rw [HS.out]; first | rfl | simp), HBW.out.trans ((HB2.out.trans (H9.out.mono (by omega))).mono hsz)⟩
                case measure => simp [intOf]; omega
              | true =>
                have hv1 := HN1.out w3
                have hv2 := HN2.out w3
                cases n1 with
                | false =>
                  go_wp2_with fail
                  go_roundw
                  case rel => exact ⟨k + 1, by omega, by go_num, (by rw [HS.out]; first | rfl | simp), HBW.out.trans ((HB2.out.trans (H9.out.mono (by omega))).mono hsz)⟩
                  case measure => simp [intOf]; omega
                | true =>
                  cases n2 with
                  | false =>
                    go_wp2_with fail
                    go_roundw
                    case rel => exact ⟨k + 1, by omega, by go_num, (by rw [HS.out]; first | rfl | simp), HBW.out.trans ((HB2.out.trans (H9.out.mono (by omega))).mono hsz)⟩
                    case measure => simp [intOf]; omega
                  | true =>
                    go_wp2_with fail
                    go_roundw
                    case rel => exact ⟨k + 1, by omega, by go_num, (by rw [HS.out]; first | rfl | simp), HBW.out.trans ((HB2.out.trans (H9.out.mono (by omega))).mono hsz)⟩
                    case measure => simp [intOf]; omega
      · obtain rfl : k = L.length := by omega
        have HNE : Hid (netE L = if (false && L.all fun x => siteOkB x.s) then 0 else 90) := by show _ = _; unfold netE netB; rw [HIB.out]; first | rfl | (simp; done)
        rw [List.take_of_length_le (Nat.le_refl _)] at *
        cases hq : (false && L.all fun x => siteOkB x.s) with
        | false =>
          rw [hq] at HNE
          have HQ := HNE
          clear hq HNE
          go_wp2_with fail
          go_ret
          exact ⟨ret_int (by rw [HQ.out]; rfl), HBW.out⟩
        | true =>
          rw [hq] at HNE
          have HQ := HNE
          clear hq HNE
          go_wp2_with fail
          go_ret
          exact ⟨ret_int (by rw [HQ.out]; rfl), HBW.out⟩
  | true =>
    go_enter Tryz.func74, Tryz.ntmps74
    go_wp2_with (first | (go_at_call 38; refine (swithin_ _ _ _ _).mono ?_; rintro e w' ⟨rfl, rfl⟩; rw [HIB.out]) | (go_at_call 113; refine (namedS_ L A c _ HL.out HM.out).mono ?_; rintro e w1 ⟨rfl, hb1⟩; rw [HNB.out]; have HB1 := Lib.hid hb1; clear hb1))
    have HA : Hid (Below w.heap.size w w1) := HB1.out
    go_loopw [3, 16] (fun o i wr => cnRel L nb w o i wr) (fun _ i _ => L.length - (intOf i).toNat)
    case atStart => exact ⟨0, Nat.zero_le _, rfl, by simp, HA.out⟩
    case round =>
      obtain ⟨k, hk, rfl, rfl, hbw⟩ := hrel
      have HBW := Lib.hid hbw
      have hsz := hbw.size
      clear hbw
      by_cases hlt : k < L.length
      · obtain ⟨tb, to, rfl, htb, c0, c1, c2, c3, c4, c5, c6, c7, c8, c9⟩ := (HL.out.below HBW.out).ns_at hlt
        have hsn : (nb && (L.take (k + 1)).all fun x => siteOkB x.s) = ((nb && (L.take k).all fun x => siteOkB x.s) && siteOkB L[k].s) := by rw [all_take_succ _ hlt, Bool.and_assoc]
        have HS := Lib.hid hsn
        obtain ⟨X, hX⟩ : ∃ X, L[k] = X := ⟨_, rfl⟩
        rw [hX] at c0 c1 c2 c3 c4 c5 c6 c7 c8 c9 HS
        have hlt' : (k : Int) < (L.length : Int) := by omega
        have htb2 : tb < wr.heap.size := by omega
        obtain ⟨q, hq⟩ : ∃ q, (nb && (L.take k).all fun x => siteOkB x.s) = q := ⟨_, rfl⟩
        rw [hq] at HS ⊢
        clear hX hsn hq
        go_wp2_with fail
        refine (siteOf_ X _).mono ?_
        rintro e w2 ⟨rfl, hb⟩
        have hb2 : Below wr.heap.size wr w2 := (show Below wr.heap.size wr _ from (by repeat (first | exact Below.refl _ _ | assumption | refine below_drewN ?_ _ | refine Below.drew ?_ | refine Below.setCell ?_ (by first | omega | (simp; done) | (simp; omega)) _ | refine Below.alloc ?_ (by first | omega | (simp; done) | (simp; omega)) _))).trans (hb.mono (by simp))
        have hz2 := hb2.size
        clear hb
        obtain ⟨nm, ⟨⟨x1, x2, x3⟩, ⟨y1, y2, y3⟩, ⟨z1, z2, z3⟩⟩⟩ := X
        have HB2 : Hid (Below wr.heap.size wr (w2.alloc (.cells #[.int .i64 x1, .int .i64 x2, .int .i64 x3, .int .i64 y1, .int .i64 y2, .int .i64 y3, .int .i64 z1, .int .i64 z2, .int .i64 z3] 113))) := (by repeat (first | exact Below.refl _ _ | assumption | refine below_drewN ?_ _ | refine Below.drew ?_ | refine Below.setCell ?_ (by first | omega | (simp; done) | (simp; omega)) _ | refine Below.alloc ?_ (by first | omega | (simp; done) | (simp; omega)) _))
        have S9 : Hid (∀ W, Below (w2.heap.size + 1) (w2.alloc (.cells #[.int .i64 x1, .int .i64 x2, .int .i64 x3, .int .i64 y1, .int .i64 y2, .int .i64 y3, .int .i64 z1, .int .i64 z2, .int .i64 z3] 113)) W → W.cell? ⟨w2.heap.size, 3, none⟩ = some (.int .i64 y1) ∧ W.cell? ⟨w2.heap.size, 4, none⟩ = some (.int .i64 y2) ∧ W.cell? ⟨w2.heap.size, 5, none⟩ = some (.int .i64 y3) ∧ W.cell? ⟨w2.heap.size, 6, none⟩ = some (.int .i64 z1) ∧ W.cell? ⟨w2.heap.size, 7, none⟩ = some (.int .i64 z2) ∧ W.cell? ⟨w2.heap.size, 8, none⟩ = some (.int .i64 z3)) := fun W h =>
          ⟨(h.cell (p := ⟨w2.heap.size, 3, none⟩) (Nat.lt_succ_self _)).trans (by simp [go_sem]), (h.cell (p := ⟨w2.heap.size, 4, none⟩) (Nat.lt_succ_self _)).trans (by simp [go_sem]), (h.cell (p := ⟨w2.heap.size, 5, none⟩) (Nat.lt_succ_self _)).trans (by simp [go_sem]),
            (h.cell (p := ⟨w2.heap.size, 6, none⟩) (Nat.lt_succ_self _)).trans (by simp [go_sem]), (h.cell (p := ⟨w2.heap.size, 7, none⟩) (Nat.lt_succ_self _)).trans (by simp [go_sem]), (h.cell (p := ⟨w2.heap.size, 8, none⟩) (Nat.lt_succ_self _)).trans (by simp [go_sem])⟩
        clear hb2
        have hsx : siteOkB ⟨(x1, x2, x3), (y1, y2, y3), (z1, z2, z3)⟩ = (mostB (x1, x2, x3) 65536 && (mostB (y1, y2, y3) 100 && (mostB (z1, z2, z3) 100 && (nzB (y1, y2, y3) && nzB (z1, z2, z3))))) := rfl
        rw [show (NSi.mk nm ⟨(x1, x2, x3), (y1, y2, y3), (z1, z2, z3)⟩).s = ⟨(x1, x2, x3), (y1, y2, y3), (z1, z2, z3)⟩ from rfl, hsx] at HS
        clear hsx
        obtain ⟨n1, hn1⟩ : ∃ n1, nzB (y1, y2, y3) = n1 := ⟨_, rfl⟩
        obtain ⟨n2, hn2⟩ : ∃ n2, nzB (z1, z2, z3) = n2 := ⟨_, rfl⟩
        rw [hn1, hn2] at HS
        have HN1 : Hid (∀ W, (Op.equalIn 10000 110 (.agg #[.int .i64 y1, .int .i64 y2, .int .i64 y3]) (.agg #[.int .i64 0, .int .i64 0, .int .i64 0])).run Tryz.prog W = .ok (!n1) W) := fun W => (run_eql_v3 _ _ _ _ _ _ W).trans (by rw [← hn1]; unfold nzB; simp)
        have HN2 : Hid (∀ W, (Op.equalIn 10000 110 (.agg #[.int .i64 z1, .int .i64 z2, .int .i64 z3]) (.agg #[.int .i64 0, .int .i64 0, .int .i64 0])).run Tryz.prog W = .ok (!n2) W) := fun W => (run_eql_v3 _ _ _ _ _ _ W).trans (by rw [← hn2]; unfold nzB; simp)
        clear hn1 hn2
        cases q with
        | false =>
          go_wp2_with fail
          go_roundw
          case rel => exact ⟨k + 1, by omega, by go_num, (by rw [HS.out]; first | rfl | simp), HBW.out.trans (HB2.out.mono hsz)⟩
          case measure => simp [intOf]; omega
        | true =>
          go_wp2_with fail
          refine (most_ (x1, x2, x3) 65536 _ (w64 (by decide) (by decide))).mono ?_
          rintro e w3 ⟨rfl, hb⟩
          obtain ⟨d3, d4, d5, d6, d7, d8⟩ := S9.out w3 ((show Below (w2.heap.size + 1) (w2.alloc (.cells #[.int .i64 x1, .int .i64 x2, .int .i64 x3, .int .i64 y1, .int .i64 y2, .int .i64 y3, .int .i64 z1, .int .i64 z2, .int .i64 z3] 113)) _ from Below.refl _ _).trans (hb.mono (by first | omega | (simp; done) | (simp; omega))))
          have H9 : Hid (Below (w2.heap.size + 1) (w2.alloc (.cells #[.int .i64 x1, .int .i64 x2, .int .i64 x3, .int .i64 y1, .int .i64 y2, .int .i64 y3, .int .i64 z1, .int .i64 z2, .int .i64 z3] 113)) w3) := (show Below (w2.heap.size + 1) (w2.alloc (.cells #[.int .i64 x1, .int .i64 x2, .int .i64 x3, .int .i64 y1, .int .i64 y2, .int .i64 y3, .int .i64 z1, .int .i64 z2, .int .i64 z3] 113)) _ from Below.refl _ _).trans (hb.mono (by first | omega | (simp; done) | (simp; omega)))
          have hz3 := hb.size
          try simp at hz3
          clear hb
          obtain ⟨m, hm⟩ : ∃ m, mostB (x1, x2, x3) 65536 = m := ⟨_, rfl⟩
          rw [hm] at HS ⊢
          clear hm
          cases m with
          | false =>
            go_wp2_with fail
            go_roundw
            case rel => exact ⟨k + 1, by omega, by go_num, (by rw [HS.out]; first | rfl | simp), HBW.out.trans ((HB2.out.trans (H9.out.mono (by omega))).mono hsz)⟩
            case measure => simp [intOf]; omega
          | true =>
            go_wp2_with fail
            refine (most_ (y1, y2, y3) 100 _ (w64 (by decide) (by decide))).mono ?_
            rintro e w3 ⟨rfl, hb⟩
            obtain ⟨d3, d4, d5, d6, d7, d8⟩ := S9.out w3 (H9.out.trans (hb.mono (by first | omega | (simp; done) | (simp; omega))))
            have H9 : Hid (Below (w2.heap.size + 1) (w2.alloc (.cells #[.int .i64 x1, .int .i64 x2, .int .i64 x3, .int .i64 y1, .int .i64 y2, .int .i64 y3, .int .i64 z1, .int .i64 z2, .int .i64 z3] 113)) w3) := H9.out.trans (hb.mono (by first | omega | (simp; done) | (simp; omega)))
            have hz3 := hb.size
            try simp at hz3
            clear hb
            obtain ⟨m, hm⟩ : ∃ m, mostB (y1, y2, y3) 100 = m := ⟨_, rfl⟩
            rw [hm] at HS ⊢
            clear hm
            cases m with
            | false =>
              go_wp2_with fail
              go_roundw
              case rel => exact ⟨k + 1, by omega, by go_num, (by rw [HS.out]; first | rfl | simp), HBW.out.trans ((HB2.out.trans (H9.out.mono (by omega))).mono hsz)⟩
              case measure => simp [intOf]; omega
            | true =>
              go_wp2_with fail
              refine (most_ (z1, z2, z3) 100 _ (w64 (by decide) (by decide))).mono ?_
              rintro e w3 ⟨rfl, hb⟩
              obtain ⟨d3, d4, d5, d6, d7, d8⟩ := S9.out w3 (H9.out.trans (hb.mono (by first | omega | (simp; done) | (simp; omega))))
              have H9 : Hid (Below (w2.heap.size + 1) (w2.alloc (.cells #[.int .i64 x1, .int .i64 x2, .int .i64 x3, .int .i64 y1, .int .i64 y2, .int .i64 y3, .int .i64 z1, .int .i64 z2, .int .i64 z3] 113)) w3) := H9.out.trans (hb.mono (by first | omega | (simp; done) | (simp; omega)))
              have hz3 := hb.size
              try simp at hz3
              clear hb
              obtain ⟨m, hm⟩ : ∃ m, mostB (z1, z2, z3) 100 = m := ⟨_, rfl⟩
              rw [hm] at HS ⊢
              clear hm
              cases m with
              | false =>
                go_wp2_with fail
                go_roundw
                case rel => exact ⟨k + 1, by omega, by go_num, (by rw [HS.out]; first | rfl | simp), HBW.out.trans ((HB2.out.trans (H9.out.mono (by omega))).mono hsz)⟩
                case measure => simp [intOf]; omega
              | true =>
                have hv1 := HN1.out w3
                have hv2 := HN2.out w3
                cases n1 with
                | false =>
                  go_wp2_with fail
                  go_roundw
                  case rel => exact ⟨k + 1, by omega, by go_num, (by rw [HS.out]; first | rfl | simp), HBW.out.trans ((HB2.out.trans (H9.out.mono (by omega))).mono hsz)⟩
                  case measure => simp [intOf]; omega
                | true =>
                  cases n2 with
                  | false =>
                    go_wp2_with fail
                    go_roundw
                    case rel => exact ⟨k + 1, by omega, by go_num, (by rw [HS.out]; first | rfl | simp), HBW.out.trans ((HB2.out.trans (H9.out.mono (by omega))).mono hsz)⟩
                    case measure => simp [intOf]; omega
                  | true =>
                    go_wp2_with fail
                    go_roundw
                    case rel => exact ⟨k + 1, by omega, by go_num, (by rw [HS.out]; first | rfl | simp), HBW.out.trans ((HB2.out.trans (H9.out.mono (by omega))).mono hsz)⟩
                    case measure => simp [intOf]; omega
      · obtain rfl : k = L.length := by omega
        have HNE : Hid (netE L = if (nb && L.all fun x => siteOkB x.s) then 0 else 90) := by show _ = _; unfold netE netB; rw [HIB.out, HNB.out]; first | rfl | (simp; done)
        rw [List.take_of_length_le (Nat.le_refl _)] at *
        cases hq : (nb && L.all fun x => siteOkB x.s) with
        | false =>
          rw [hq] at HNE
          have HQ := HNE
          clear hq HNE
          go_wp2_with fail
          go_ret
          exact ⟨ret_int (by rw [HQ.out]; rfl), HBW.out⟩
        | true =>
          rw [hq] at HNE
          have HQ := HNE
          clear hq HNE
          go_wp2_with fail
          go_ret
          exact ⟨ret_int (by rw [HQ.out]; rfl), HBW.out⟩

end Go.Proofs.YtmpbhngjkbidcaaGreatDoor

/-
  The walk of the sky's netted: the sites of a network, or the first error.
-/
namespace Go.Proofs.YtmpbhngjkbidcaaGreatDoor
open Go.RowKit Al

/-- The first error of a network and a grid. -/
def netG (L : List NSi) (n : Int) : Int := if netE L == 0 then (if inB n 1 8 then 0 else 91) else 90
theorem netE_cases (L : List NSi) : netE L = 0 ∨ netE L = 90 := by unfold netE; split <;> simp
theorem infoSite : (Tryz.prog.info? 113).map (fun i => (i.zero, i.size, i.bytes)) = some (some (.agg #[.int .i64 0, .int .i64 0, .int .i64 0, .int .i64 0, .int .i64 0, .int .i64 0, .int .i64 0, .int .i64 0, .int .i64 0]), 9, 72) := by kernel_rfl
def sites (L : List NSi) : List Site := L.map (·.s)
theorem sites_snoc {L : List NSi} {k : Nat} (h : k < L.length) : siCells (sites (L.take (k + 1))) = siCells (sites (L.take k)) ++ siCell L[k].s := by
  unfold sites siCells
  rw [List.take_succ_eq_append_getElem h, List.map_append, List.flatMap_append]
  simp
theorem site_one (s : Site) : ∀ u ∈ siCell s, u.oneCell' = true := by
  intro u hu
  simp [siCell] at hu
  rcases hu with rfl | rfl | rfl | rfl | rfl | rfl | rfl | rfl | rfl <;> rfl
set_option maxRecDepth 100000 in
theorem netted_e (L : List NSi) (A : Option Addr) (c : Nat) (n v : Int) (w : World) (hv : netG L n = v) (h0 : ¬ v = 0) (hL : Sl w w.heap.size 10 A L.length c (nsCells L)) (hm : ∀ x ∈ L, x.nm.size ≤ maxLen) :
    Calls Tryz.prog 37 #[.slice A L.length c, .int .i64 n] w fun e w' => e = .returned (.tuple #[.slice none 0 0, .int .i64 v]) ∧ Below w.heap.size w w' := by
  have HL := Lib.hid hL
  have HM := Lib.hid hm
  have HV := Lib.hid hv
  have H0 := Lib.hid h0
  clear hL hm hv h0
  rcases netE_cases L with h | h
  · have HE := Lib.hid h
    have hg : inB n 1 8 = false := by
      cases hg : inB n 1 8 with
      | false => rfl
      | true => exact absurd (by rw [← HV.out]; unfold netG; rw [h, hg]; rfl) H0.out
    have HG := Lib.hid hg
    obtain rfl : v = 91 := by rw [← HV.out]; unfold netG; rw [h, hg]; rfl
    clear h hg
    go_enter Tryz.func37, Tryz.ntmps37
    go_wp2_with (first
      | (go_at_call 74; refine (checkNet_ L A c _ HL.out HM.out).mono ?_; rintro e w1 ⟨rfl, hb1⟩; rw [HE.out]; have HB1 := Lib.hid hb1; clear hb1)
      | (go_at_call 75; refine (skGrid_ _ _).mono ?_; rintro e w' ⟨rfl, rfl⟩; rw [HG.out]))
    go_ret2
    exact ⟨rfl, HB1.out⟩
  · have HE := Lib.hid h
    obtain rfl : v = 90 := by rw [← HV.out]; unfold netG; rw [h]; rfl
    clear h
    go_enter Tryz.func37, Tryz.ntmps37
    go_wp2_with (go_at_call 74; refine (checkNet_ L A c _ HL.out HM.out).mono ?_; rintro e w1 ⟨rfl, hb1⟩; rw [HE.out]; have HB1 := Lib.hid hb1; clear hb1)
    go_ret2
    exact ⟨rfl, HB1.out⟩
def ntRel (L : List NSi) (w : World) (o i : Value) (wr : World) : Prop := ∃ (k : Nat) (B : Option Addr) (c : Nat), k ≤ L.length ∧ i = .int .i64 k ∧ o = .slice B k c ∧ Hid (wr.ownsRow w.heap.size 113 9 (.slice B k c) k (siCells (sites (L.take k)))) ∧ Below w.heap.size w wr
def NetOut (L : List NSi) (w : World) (e : Ending) (w' : World) : Prop := ∃ B c, e = .returned (.tuple #[.slice B L.length c, .int .i64 0]) ∧ w'.ownsRow w.heap.size 113 9 (.slice B L.length c) L.length (siCells (sites L)) ∧ Below w.heap.size w w'
set_option maxRecDepth 100000 in
set_option maxHeartbeats 4000000 in
theorem netted_ok (L : List NSi) (A : Option Addr) (c : Nat) (n : Int) (w : World) (hv : netG L n = 0) (hL : Sl w w.heap.size 10 A L.length c (nsCells L)) (hm : ∀ x ∈ L, x.nm.size ≤ maxLen) :
    Calls Tryz.prog 37 #[.slice A L.length c, .int .i64 n] w (NetOut L w) := by
  obtain ⟨i0, hi, hz0, hz1, hz2⟩ := info_parts infoSite
  have he : netE L = 0 := by
    rcases netE_cases L with h | h
    · exact h
    · unfold netG at hv; rw [h] at hv; cases hv
  have hg : inB n 1 8 = true := by
    unfold netG at hv
    rw [he] at hv
    cases hg : inB n 1 8 with
    | true => rfl
    | false => rw [hg] at hv; cases hv
  have hnb : netB L = true := by
    unfold netE at he
    cases hb : netB L with
    | true => rfl
    | false => rw [hb] at he; cases he
  have hl6 : L.length ≤ 6 := by
    unfold netB at hnb
    simp only [Bool.and_eq_true] at hnb
    have := inB_true.1 hnb.1.1
    omega
  have HL := Lib.hid hL
  have HM := Lib.hid hm
  have HE := Lib.hid he
  have HG := Lib.hid hg
  clear hL hm hv he hg hnb
  go_enter Tryz.func37, Tryz.ntmps37
  go_wp2_with (first
    | (go_at_call 74; refine (checkNet_ L A c _ HL.out HM.out).mono ?_; rintro e w1 ⟨rfl, hb1⟩; rw [HE.out]; have HB1 := Lib.hid hb1; clear hb1)
    | (go_at_call 75; refine (skGrid_ _ _).mono ?_; rintro e w' ⟨rfl, rfl⟩; rw [HG.out]))
  go_loopw [7, 20] (fun o i wr => ntRel L w o i wr) (fun _ i _ => L.length - (intOf i).toNat)
  case atStart => exact ⟨0, none, 0, Nat.zero_le _, rfl, rfl, World.ownsRow_nil _ _ _ _, HB1.out⟩
  case round =>
    obtain ⟨k, B, cc, hk, rfl, rfl, HO, hbw⟩ := hrel
    have HBW := Lib.hid hbw
    have hsz := hbw.size
    clear hbw
    by_cases hlt : k < L.length
    · obtain ⟨tb, to, rfl, htb, c0, c1, c2, c3, c4, c5, c6, c7, c8, c9⟩ := (HL.out.below HBW.out).ns_at hlt
      have HS := Lib.hid (sites_snoc hlt)
      obtain ⟨X, hX⟩ : ∃ X, L[k] = X := ⟨_, rfl⟩
      rw [hX] at c0 c1 c2 c3 c4 c5 c6 c7 c8 c9 HS
      have hlt' : (k : Int) < (L.length : Int) := by omega
      have htb2 : tb < wr.heap.size := by omega
      obtain ⟨nm, ⟨⟨x1, x2, x3⟩, ⟨y1, y2, y3⟩, ⟨z1, z2, z3⟩⟩⟩ := X
      clear hX
      go_wp2_with (first
        | (go_at_call 76; refine (siteOf_ ⟨nm, ⟨(x1, x2, x3), (y1, y2, y3), (z1, z2, z3)⟩⟩ _).mono ?_; rintro e w3 ⟨rfl, hb3⟩; have HB3 : Hid (Below wr.heap.size wr w3) := (show Below wr.heap.size wr _ from (by repeat (first | exact Below.refl _ _ | assumption | refine below_drewN ?_ _ | refine Below.drew ?_ | refine Below.setCell ?_ (by first | omega | (simp; done) | (simp; omega)) _ | refine Below.alloc ?_ (by first | omega | (simp; done) | (simp; omega)) _))).trans (hb3.mono (by first | omega | (simp; done) | (simp; omega))); have hz3 := HB3.out.size; clear hb3)
        | (at_builtin; go_must (refine wpList_append_lies _ rfl _ _ 105 rfl w.heap.size 113 i0 (.agg #[.int .i64 0, .int .i64 0, .int .i64 0, .int .i64 0, .int .i64 0, .int .i64 0, .int .i64 0, .int .i64 0, .int .i64 0]) 9 72 Tryz.underlying105 hi hz0 hz1 hz2 rfl (by decide) (.slice B k cc) k _ rfl (own_below HO.out (Nat.le_refl _) (HB3.out.alloc HB3.out.size _)) _ 1 1 (siCell ⟨(x1, x2, x3), (y1, y2, y3), (z1, z2, z3)⟩) rfl rfl (World.news_of_block (heap_alloc_new w3 _)) (site_one _) (by decide) (by unfold maxLen; omega) (by omega) (by simp; omega) _ rfl ?_); intro g cap w5 hown5 hg5 hat5 hlt5))
      go_roundw
      case rel => exact ⟨k + 1, some ⟨g, 0, none⟩, cap, by omega, by go_num, rfl, (show _ from by rw [HS.out]; exact hown5), ((HBW.out.trans (HB3.out.mono hsz)).alloc (by omega) _).grown hg5 (by simp; omega) (fun j e => (HO.out.lt j e).1)⟩
      case measure => simp [intOf]; omega
    · obtain rfl : k = L.length := by omega
      go_wp2_with fail
      go_ret2
      exact ⟨B, cc, rfl, by have := HO.out; rw [List.take_of_length_le (Nat.le_refl _)] at this; exact this, HBW.out⟩
end Go.Proofs.YtmpbhngjkbidcaaGreatDoor
