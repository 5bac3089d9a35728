/-
  The walk of natText of package num: decimal digits are read as a natural number.
-/
import Derived.Test.YtpphnnijnnfngaaGreatDoorW02
import Derived.Lib.Walk
import Derived.Lib.Strings
namespace Go.Proofs.YtpphnnijnnfngaaGreatDoor
open Go.RowKit Al Nat9

/-- A natural number is handed back, and that it is one. -/
def NabT (v : Nat) (w : World) (e : Ending) (w' : World) : Prop := ∃ A c, e = .returned (.tuple #[.slice A (dg v).length c, .bool true]) ∧ NaIn w' A c v ∧ Below w.heap.size w w'
def TxRel (S : List UInt8) (w : World) (s o : Value) (wr : World) : Prop :=
  ∃ (k : Nat) (t : ByteArray) (l : List Nat) (A : Option Addr) (c : Nat), s = .string t ∧ t.data.toList = S.take k ∧ TxI S k l ∧ o = .slice A l.length c ∧ Hid (wr.ownsRow w.heap.size 157 1 (.slice A l.length c) l.length (u64s l)) ∧ Hid (Below w.heap.size w wr)
def TyRel (l : List UInt8) (j : Nat) (n i : Value) : Prop := ∃ m : Nat, m ≤ l.length ∧ i = .int .i64 ((j + m : Nat) : Int) ∧ n = .int .u64 ((decV (l.take m) : Nat) : Int)
set_option maxRecDepth 100000 in
set_option maxHeartbeats 4000000 in
theorem natText_ (s : ByteArray) (w : World) (hd : s.data.toList.all isD = true) (h0 : 0 < s.size) (hs : s.size ≤ 9000000) : Calls Tryz.prog 115 #[.string s] w (NabT (decV s.data.toList) w) := by
  obtain ⟨i0, hi, hz0, hz1, hz2⟩ := info_parts infoU64
  have HD := Lib.hid hd
  clear hd
  have hsl : s.size = s.data.toList.length := Lib.size_eq s
  have HSL := Lib.hid hsl
  obtain ⟨S, hS⟩ : ∃ S, s.data.toList = S := ⟨_, rfl⟩
  rw [hS] at HD HSL ⊢
  have HS := Lib.hid hS
  have e0 : (s.toList == []) = false := by
    rw [Lib.toList_data, hS]
    rw [hS] at hsl
    cases S with
    | nil => exact absurd hsl (by rw [List.length_nil]; omega)
    | cons a b => rfl
  clear hS hsl
  go_enter Tryz.func115, Tryz.ntmps115
  go_wp2_with fail
  go_loopw [0, 4] (fun s o wr => TxRel S w s o wr) (fun s _ _ => match s with | .string t => t.size | _ => 0)
  case atStart => exact ⟨S.length, s, [], none, 0, rfl, by rw [HS.out, List.take_length], TxI.start S, rfl, Lib.hid (World.ownsRow_nil _ _ _ _), Lib.hid (Below.refl _ _)⟩
  case round =>
    obtain ⟨k, t, l, A, c, rfl, ht, hI, rfl, HO, HW⟩ := hrel
    have HI := Lib.hid hI
    have hsz := HW.out.size
    have hkl := hI.le
    have hts : t.size = k := by rw [Lib.size_eq, ht, List.length_take]; omega
    have HT := Lib.hid ht
    have hSn : S.length ≤ 9000000 := by rw [← HSL.out]; exact hs
    clear hI ht
    by_cases hk : k = 0
    · subst hk
      have hv := HI.out.end_
      have h2 := S64.of_own HO.out
      have HL := Lib.hid (lean_ l A c wr HI.out.ds h2)
      rw [hv] at HL
      have ht0 : t.size = 0 := hts
      clear hts hv h2
      go_wp2_with fail
      refine HL.out.mono ?_
      rintro e w' ⟨A', c', rfl, hn, hb⟩
      have HN := Lib.hid hn
      have HW2 := Lib.hid (HW.out.trans (hb.mono hsz))
      clear hn hb
      go_wp2_with fail
      go_ret2
      exact ⟨A', c', rfl, HN.out, HW2.out⟩
    · obtain rfl : k = t.size := hts.symm
      clear hts
      obtain ⟨j, hj⟩ : ∃ j, t.size - 9 = j := ⟨_, rfl⟩
      have em : max (0 : Int) ((t.size : Int) - 9) = (j : Int) := by omega
      have hjl : j ≤ t.size := by omega
      have hj9 : t.size ≤ j + 9 := by omega
      have t0 : 0 < t.size := by omega
      have t1 : (t.size : Int) ≤ 9000000 := by omega
      obtain ⟨L, hL⟩ : ∃ L, t.data.toList.drop j = L := ⟨_, rfl⟩
      have hLl : L.length = t.size - j := by rw [← hL, List.length_drop, ← Lib.size_eq]
      have HLL := Lib.hid hLl
      have HLD : Hid (L.all isD = true) := by
        show _ = _
        rw [← hL, HT.out]
        refine List.all_eq_true.2 fun x hx => List.all_eq_true.1 HD.out x (List.mem_of_mem_take (List.mem_of_mem_drop hx))
      have HST := HI.out.step t0 (by rw [hj, ← HT.out, hL]; exact HLD.out)
      rw [hj, ← HT.out, hL] at HST
      have HSTT := Lib.hid HST
      have HL := Lib.hid hL
      clear HST hL hLl hj
      go_wp2_with fail
      go_loop [6, 7] (fun n i => TyRel L j n i) (fun _ i => t.size - (intOf i).toNat)
      case atStart => exact ⟨0, Nat.zero_le _, by first | rfl | go_num, rfl⟩
      case round =>
        obtain ⟨m, hm, rfl, rfl⟩ := hrel
        by_cases hlt : m < L.length
        · have hlt2 : j + m < t.size := by rw [HLL.out] at hlt; omega
          have hg : L[m] = t[j + m] := by
            have e := getElem_congr_coll (i := m) HL.out.symm (w := hlt)
            rw [e, List.getElem_drop]
            rfl
          have hd1 : isD L[m] = true := List.all_eq_true.1 HLD.out _ (List.getElem_mem hlt)
          rw [hg] at hd1
          obtain ⟨b, hb⟩ : ∃ b, t[j + m] = b := ⟨_, rfl⟩
          rw [hb] at hd1 hg
          have hb2 := isD_iff.1 hd1
          have b1 : (48 : Int) ≤ (t[j + m].toNat : Int) := by rw [hb]; omega
          have b2 : (t[j + m].toNat : Int) ≤ 57 := by rw [hb]; omega
          obtain ⟨v, hv⟩ : ∃ v, decV (L.take m) = v := ⟨_, rfl⟩
          have hv9 : v < 1000000000 := by
            rw [← hv]
            have h1 := decV_lt (L.take m) (List.all_eq_true.2 fun x hx => List.all_eq_true.1 HLD.out x (List.mem_of_mem_take hx))
            have h2 : (10 : Nat) ^ (L.take m).length ≤ 10 ^ 9 := Nat.pow_le_pow_right (by omega) (by rw [List.length_take]; omega)
            omega
          have HN : Hid (decV (L.take (m + 1)) = 10 * v + (b.toNat - 48)) := by
            show _ = _
            rw [List.take_succ_eq_append_getElem hlt, decV_snoc, hv, hg]
          have HBB := Lib.hid hb
          rw [hv]
          clear hv hb hg hd1
          go_wp2_with fail
          go_round
          case rel => exact ⟨m + 1, by omega, by go_num, by rw [HN.out, ← HBB.out]; go_num⟩
          case measure => simp [intOf]; omega
        · obtain rfl : m = L.length := by omega
          have hjm : j + L.length = t.size := by rw [HLL.out]; omega
          have c1 : ¬ ((j + L.length : Nat) : Int) < (t.size : Int) := by omega
          have c2 : ¬ (j : Int) + (L.length : Int) < (t.size : Int) := by omega
          rw [List.take_length]
          obtain ⟨v, hv⟩ : ∃ v, decV L = v := ⟨_, rfl⟩
          have hvs : u64s (l ++ [v]) = u64s l ++ [.int .u64 (v : Int)] := u64s_app l [v]
          have HVS := Lib.hid hvs
          rw [hv] at HSTT ⊢
          have hll : l.length ≤ 1000000 := by have h1 := HI.out.len t0; omega
          have HTX : Hid ((t.extract 0 j).data.toList = S.take j) := by
            show _ = _
            rw [Lib.extract_data, List.drop_zero, Nat.sub_zero, HT.out, List.take_take, Nat.min_eq_left hjl]
          have j0 : (0 : Int) ≤ (j : Int) := by omega
          have j1 : (j : Int) ≤ (t.size : Int) := by omega
          clear hv hvs hjm
          go_wp2_with (at_builtin; go_must (refine wpList_append_lies _ rfl _ _ 67 rfl w.heap.size 157 i0 (.int .u64 0) 1 8 Tryz.underlying67 hi hz0 hz1 hz2 rfl (by decide) (.slice A l.length c) l.length (u64s l) rfl (own_below HO.out (Nat.le_refl _) ((Below.refl _ _).alloc (Nat.le_refl _) _)) _ 1 1 [.int .u64 (v : Int)] rfl rfl (World.news_of_block (heap_alloc_new wr _)) (by intro u hu; rw [List.mem_singleton.1 hu]; rfl) (by decide) (by unfold maxLen; omega) (by omega) (by simp; omega) _ rfl ?_); intro g cap w6 hown6 hg6 hat6 hlt6; have z6 := hg6.size; (try simp at z6))
          go_roundw
          case rel =>
            refine ⟨j, t.extract 0 j, l ++ [v], some ⟨g, 0, none⟩, cap, by simp, HTX.out, HSTT.out, by simp, Lib.hid ?_, Lib.hid ((HW.out.alloc hsz _).grown hg6 (by simp; omega) (fun g h => (own_lt HO.out h).1))⟩
            rw [HVS.out, show (l ++ [v]).length = l.length + 1 by simp]
            exact hown6
          case measure => simp; omega
end Go.Proofs.YtpphnnijnnfngaaGreatDoor
