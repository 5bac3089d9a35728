/-
  Natural numbers of package num: lean leaves the beginning of its row; times hands back a row of its own.
-/
import Derived.Test.YtpphnnijnnfngaaGreatDoorW02
import Derived.Test.YtpphnnijnnfngaaGreatDoorW31
namespace Go.Proofs.YtpphnnijnnfngaaGreatDoor
open Go.RowKit Al Nat9

theorem own_takeU {w : World} {base n cap g k : Nat} {e : TypeId} {l : List Nat} (h : w.ownsRow base e 1 (.slice (some ⟨g, 0, none⟩) n cap) n (u64s l)) (hk : k ≤ n) : w.ownsRow base e 1 (.slice (some ⟨g, 0, none⟩) k cap) k (u64s (l.take k)) := by
  obtain ⟨h1, h2⟩ := h
  rw [u64s_len] at h1
  rcases h2 with ⟨h, _⟩ | ⟨g', cap', cur, hv, hb, hg, hn, hm, hs, hx⟩
  · cases h
  · cases hv
    refine ⟨by rw [u64s_len, List.length_take]; omega, .inr ⟨_, _, cur, rfl, hb, hg, by omega, hm, hs, ?_⟩⟩
    rw [show u64s (l.take k) = (u64s l).take k by simp [u64s, List.map_take], ← hx, List.take_take, Nat.min_eq_left (by omega), Nat.mul_one]
/-- A natural number is handed back in a row of its own. -/
def NaO (v : Nat) (w : World) (e : Ending) (w' : World) : Prop := ∃ A c, e = .returned (.slice A (dg v).length c) ∧ w'.ownsRow w.heap.size 157 1 (.slice A (dg v).length c) (dg v).length (u64s (dg v)) ∧ Below w.heap.size w w'
set_option maxRecDepth 100000 in
set_option maxHeartbeats 1000000 in
theorem leanX_ (l : List Nat) (A : Option Addr) (c : Nat) (w : World) (hd : DG l) (h : S64 w w.heap.size A l.length c l) : Calls Tryz.prog 121 #[.slice A l.length c] w fun e w' => e = .returned (.slice A (dg (val l)).length c) ∧ l.take (dg (val l)).length = dg (val l) ∧ Below w.heap.size w w' := by
  have HS := Lib.hid h
  have HD := Lib.hid hd
  have hmx : l.length ≤ 9223372036854775807 := Nat.le_trans h.cap h.max
  have hcm : c ≤ 9223372036854775807 := h.max
  have hcl := h.cap
  clear h hd
  go_enter Tryz.func121, Tryz.ntmps121
  go_wp2_with fail
  go_loopw [0] (fun i wr => LeanRel l A c w i wr) (fun i _ => match i with | .slice _ k _ => k | _ => 0)
  case atStart => exact ⟨l.length, Nat.le_refl _, rfl, by rw [List.take_length], Lib.hid (Below.refl _ _)⟩
  case round =>
    obtain ⟨k, hk, rfl, hv, HB⟩ := hrel
    have hsz := HB.out.size
    cases k with
    | zero =>
      go_wp2_with fail
      go_ret
      have e := lean_take HD.out hk hv (fun h => absurd h (by omega))
      have hle : (dg (val l)).length = 0 := by rw [← e]; simp
      exact ⟨by rw [hle]; rfl, by rw [hle]; exact e, HB.out⟩
    | succ m =>
      have hm : m < l.length := by omega
      obtain ⟨b, off, rfl, hb, z0⟩ := (HS.out.below HB.out).u64_at hm
      have hb2 : b < wr.heap.size := by omega
      have m0 : (0 : Int) ≤ (m : Int) := by omega
      have m1 : (m : Int) + 1 ≤ (c : Int) := by omega
      obtain ⟨d, hdd⟩ : ∃ d, l[m] = d := ⟨_, rfl⟩
      rw [hdd] at z0
      by_cases hz : d = 0
      · subst hz
        have e2 : val (l.take m) = val l := by
          rw [take_succ_val hm, hdd] at hv
          simpa using hv
        go_wp2_with fail
        go_roundw
        case rel => exact ⟨m, by omega, rfl, e2, HB⟩
        case measure => exact Nat.lt_succ_self m
      · have hz1 : ((d : Int) == 0) = false := by simpa using hz
        go_wp2_with fail
        go_ret
        have e := lean_take HD.out hk hv (fun _ => by simpa [hdd] using hz)
        have hle : (dg (val l)).length = m + 1 := by rw [← e, List.length_take]; omega
        exact ⟨by rw [hle]; rfl, by rw [hle]; exact e, HB.out⟩
set_option maxRecDepth 100000 in
set_option maxHeartbeats 8000000 in
theorem timesO_ (x y : Nat) (A D : Option Addr) (c d : Nat) (w : World) (ha : NaIn w A c x) (hb : NaIn w D d y) (hx : (dg x).length ≤ 1048576) (hy : (dg y).length ≤ 1048576) : Calls Tryz.prog 83 #[.slice A (dg x).length c, .slice D (dg y).length d] w (NaO (x * y) w) := by
  obtain ⟨i0, hi, hz0, hz1, hz2⟩ := info_parts infoU64
  have HA := Lib.hid ha
  have HB := Lib.hid hb
  clear ha hb
  obtain ⟨la, hla⟩ : ∃ l, dg x = l := ⟨_, rfl⟩
  obtain ⟨lb, hlb⟩ : ∃ l, dg y = l := ⟨_, rfl⟩
  have HLA := Lib.hid hla
  have HDA : Hid (DG la) := by show DG la; rw [← hla]; exact dg_dg x
  have HDB : Hid (DG lb) := by show DG lb; rw [← hlb]; exact dg_dg y
  have HVA : Hid (val la = x) := by show val la = x; rw [← hla, val_dg]
  have HVB : Hid (val lb = y) := by show val lb = y; rw [← hlb, val_dg]
  unfold NaIn at HA HB
  rw [hla] at HA hx ⊢
  rw [hlb] at HB hy ⊢
  clear hla hlb
  have h2 : (0 : Int) ≤ (la.length : Int) := by omega
  have h3 : (la.length : Int) ≤ 1048576 := by omega
  have h4 : (0 : Int) ≤ (lb.length : Int) := by omega
  have h5 : (lb.length : Int) ≤ 1048576 := by omega
  obtain ⟨N, hN⟩ : ∃ N, la.length + lb.length = N := ⟨_, rfl⟩
  go_enter Tryz.func83, Tryz.ntmps83
  go_wp2_with (at_make; refine wpList_make_full _ rfl _ _ 67 rfl w.heap.size 157 i0 (.int .u64 0) 1 Tryz.underlying67 hi hz0 hz1 _ _ _ _ N rfl rfl (by omega) (by omega) (by rw [hz2]; omega) (by unfold maxLen; omega) (Nat.le_refl _) ?_; intro w1 hown1 hg1)
  rw [made_u64] at hown1
  have HR1 : TiRow w N (List.replicate N 0) w1 := ⟨Lib.hid hown1, Lib.hid ((Below.refl _ _).grown hg1 (Nat.le_refl _) (fun g h => by cases h))⟩
  clear hown1 hg1
  have hz : ∀ m, val (List.replicate m 0) = 0 := fun m => by
    induction m with
    | zero => rfl
    | succ m ih => rw [List.replicate_succ]; show 0 + 1000000000 * _ = 0; rw [ih]
  go_loopw [20] (fun i wr => TiRel x y w N i wr) (fun i _ => la.length - (intOf i).toNat)
  case atStart => exact ⟨0, List.replicate N 0, Nat.zero_le _, rfl, fun d hd => by rw [(List.mem_replicate.1 hd).2]; omega, by simp, by rw [hz, List.take_zero]; simp [val], HR1⟩
  case round =>
    obtain ⟨i, p, hi2, rfl, hpd, hpl, hpv, HR⟩ := hrel
    clear HR1 hz
    have HPD := Lib.hid hpd
    have HPV := Lib.hid hpv
    clear hpd hpv
    rw [HLA.out] at hi2
    have hsz := HR.2.out.size
    by_cases hlt : i < la.length
    · obtain ⟨b1, o1, rfl, hb1, z1⟩ := (HA.out.below HR.2.out).u64_at hlt
      have hb1' : b1 < wr.heap.size := by omega
      have j0 : (0 : Int) ≤ (i : Int) := by omega
      have j1 : (i : Int) < (la.length : Int) := by omega
      have hv9 : la[i] < 1000000000 := HDA.out.at hlt
      have HT : Hid (val p + 1000000000 ^ i * (la[i] * y) = val ((dg x).take (i + 1)) * y) := by
        show _ = _
        rw [HPV.out, HLA.out, take_succ_val hlt, Nat.add_mul, Nat.mul_assoc]
      have HRM : Hid (val p + 1000000000 ^ i * (la[i] * y) < 1000000000 ^ N) := by
        have h := mul_room HDA.out HDB.out hlt
        rw [HVB.out, hN] at h
        show _ < _
        rw [HPV.out, HLA.out]
        exact h
      obtain ⟨v, hv⟩ : ∃ v, la[i] = v := ⟨_, rfl⟩
      rw [hv] at z1 hv9 HT HRM
      clear hv
      go_wp2_with fail
      go_loopw [27, 8] (fun k cr wz => TjRel p v i lb w N k cr wz) (fun k _ _ => lb.length - (intOf k).toNat)
      case atStart => exact ⟨0, p, 0, Nat.zero_le _, rfl, rfl, TimI.start HPD.out v i lb, HR⟩
      case round =>
        obtain ⟨k, o, q, hk, rfl, rfl, hI, HR2⟩ := hrel
        have HI := Lib.hid hI
        have hcar := hI.car
        have hol := hI.len
        clear hI z1
        have hsz2 := HR2.2.out.size
        by_cases hlk : k < lb.length
        · obtain ⟨b2, o2, rfl, hb2, z2⟩ := (HB.out.below HR2.2.out).u64_at hlk
          have hik : i + k < o.length := by omega
          obtain ⟨r0, r1, hg2⟩ := HR2.at hik (by omega)
          have hu9 : lb[k] < 1000000000 := HDB.out.at hlk
          have ho9 : o[i + k] < 1000000000 := HI.out.ds.at hik
          have HN := Lib.hid (HI.out.step HDB.out hv9 hlk hik)
          obtain ⟨u, hu⟩ : ∃ u, lb[k] = u := ⟨_, rfl⟩
          obtain ⟨s, hs⟩ : ∃ s, o[i + k] = s := ⟨_, rfl⟩
          rw [hu] at z2 hu9 HN
          rw [hs] at r0 ho9 HN
          clear hu hs
          have hvu : v * u ≤ 999999999 * 999999999 := Nat.mul_le_mul (by omega) (by omega)
          obtain ⟨vu, hvu2⟩ : ∃ t, v * u = t := ⟨_, rfl⟩
          have hm1 : (v : Int) * (u : Int) = (vu : Int) := by rw [← hvu2]; exact (Int.natCast_mul v u).symm
          rw [hvu2] at HN hvu
          have k0 : (0 : Int) ≤ (k : Int) := by omega
          have k1 : (k : Int) < (lb.length : Int) := by omega
          have k2 : (i : Int) + (k : Int) < (N : Int) := by omega
          have hb2' : b2 < wr.heap.size := by have := HR2.2.out.size; omega
          go_wp2_with fail
          have e1 : ((q : Int) + ((s : Int) + (vu : Int))) % 1000000000 = (((q + (s + vu)) % 1000000000 : Nat) : Int) := by omega
          have e2 : ((q : Int) + ((s : Int) + (vu : Int))) / 1000000000 = (((q + (s + vu)) / 1000000000 : Nat) : Int) := by omega
          rw [e1, e2]
          go_roundw
          case rel => exact ⟨k + 1, _, (q + (s + vu)) / 1000000000, by omega, by go_num, rfl, HN.out, HR2.set _ _⟩
          case measure => simp [intOf]; omega
        · obtain rfl : k = lb.length := by omega
          have HCI : Hid (CarI (val p + 1000000000 ^ i * (v * y)) N (i + lb.length) o q) := by
            have h := HI.out.eq
            rw [List.take_length, HVB.out] at h
            exact ⟨HI.out.ds, by rw [hol, hpl], hcar, h⟩
          clear HI
          go_wp2_with fail
          go_loopw [11, 8] (fun j cr wz => TkRel (val p + 1000000000 ^ i * (v * y)) w N j cr wz) (fun j _ _ => N - (intOf j).toNat)
          case atStart => exact ⟨i + lb.length, o, q, by go_num, rfl, by omega, HCI.out, HR2⟩
          case round =>
            obtain ⟨j, o', q', rfl, rfl, hj, hC, HR3⟩ := hrel
            have HC := Lib.hid hC
            have hcar' := hC.car
            have hol' := hC.len
            clear hC
            by_cases hq : 0 < q'
            · have hjo := HC.out.room HRM.out hq
              obtain ⟨r0, r1, hg2⟩ := HR3.at hjo (by omega)
              have ho9 : o'[j] < 1000000000 := HC.out.ds.at hjo
              have HN := Lib.hid (HC.out.step hjo)
              obtain ⟨s, hs⟩ : ∃ s, o'[j] = s := ⟨_, rfl⟩
              rw [hs] at r0 ho9 HN
              clear hs
              have q0 : (0 : Int) < (q' : Int) := by omega
              have k0 : (0 : Int) ≤ (j : Int) := by omega
              have k1 : (j : Int) < (N : Int) := by omega
              go_wp2_with fail
              have e1 : ((q' : Int) + (s : Int)) % 1000000000 = (((q' + s) % 1000000000 : Nat) : Int) := by omega
              have e2 : ((q' : Int) + (s : Int)) / 1000000000 = (((q' + s) / 1000000000 : Nat) : Int) := by omega
              rw [e1, e2]
              go_roundw
              case rel => exact ⟨j + 1, _, (q' + s) / 1000000000, by go_num, rfl, by omega, HN.out, HR3.set _ _⟩
              case measure => simp [intOf]; omega
            · obtain rfl : q' = 0 := by omega
              have HV : Hid (val o' = val ((dg x).take (i + 1)) * y) := by
                have h := HC.out.eq
                rw [Nat.mul_zero, Nat.add_zero, HT.out] at h
                exact h
              go_wp2_with fail
              go_roundw
              case rel => exact ⟨i + 1, o', by rw [HLA.out]; omega, by go_num, HC.out.ds, hol', HV.out, HR3⟩
              case measure => simp [intOf]; omega
    · obtain rfl : i = la.length := by omega
      have hv : val p = x * y := by
        rw [HPV.out, HLA.out, List.take_length, HVA.out]
      have hs := S64.of_own HR.1.out
      rw [← hpl] at hs
      have HL := leanX_ p _ p.length wr HPD.out hs
      rw [hv, hpl] at HL
      have HLL := Lib.hid HL
      clear HL hs hv
      go_wp2_with fail
      refine HLL.out.mono ?_
      rintro e w' ⟨rfl, ht, hb⟩
      have HW2 := Lib.hid (HR.2.out.trans (hb.mono hsz))
      have HO := Lib.hid (own_below HR.1.out (Nat.le_refl _) hb)
      have HT := Lib.hid ht
      clear hb ht
      go_wp2_with fail
      go_ret
      have hle : (dg (x * y)).length ≤ N := by
        have := congrArg List.length HT.out
        rw [List.length_take] at this
        omega
      refine ⟨_, _, rfl, ?_, HW2.out⟩
      have h := own_takeU HO.out hle
      rw [HT.out] at h
      exact h
end Go.Proofs.YtpphnnijnnfngaaGreatDoor
