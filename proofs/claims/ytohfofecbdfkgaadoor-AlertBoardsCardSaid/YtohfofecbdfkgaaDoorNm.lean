/-
  The walks of the two functions that ask whether a string is a name.
-/
import Derived.Test.YtohfofecbdfkgaaDoorAr
import Derived.Test.YtohfofecbdfkgaaDoorPa
namespace Go.Proofs.YtohfofecbdfkgaaDoor
open Go.RowKit Al

theorem small_t {b : UInt8} (h : small b = true) : (97 : Int) ≤ (b.toNat : Int) ∧ (b.toNat : Int) ≤ 122 := inB_true.1 h
theorem small_f {b : UInt8} (h : small b = false) : (b.toNat : Int) < 97 ∨ 122 < (b.toNat : Int) := inB_false.1 h
theorem digit_t {b : UInt8} (h : digit b = true) : (48 : Int) ≤ (b.toNat : Int) ∧ (b.toNat : Int) ≤ 57 := inB_true.1 h
theorem digit_f {b : UInt8} (h : digit b = false) : (b.toNat : Int) < 48 ∨ 57 < (b.toNat : Int) := inB_false.1 h

/-- What a byte of a name decides, in one word: small; the place is the first; '_'; a digit. -/
def byteOk (k : Nat) (b : UInt8) : Bool := small b || (!(k == 0) && nameB b)

theorem byteOk_first {k : Nat} {b : UInt8} (h1 : small b = false) (h2 : k = 0) : byteOk k b = false := by
  subst h2
  unfold byteOk
  rw [h1]
  rfl

set_option maxHeartbeats 1000000 in
theorem isName_ (s : ByteArray) (w : World) (hs : s.size ≤ maxLen) :
    Calls Tryd.prog 88 #[.string s] w fun e w' => e = .returned (.bool (isName s.data.toList)) ∧ w = w' := by
  unfold maxLen at hs
  go_enter Tryd.func88, Tryd.ntmps88
  go_wp2
  go_loop [8] (fun i => ∃ k : Nat, k ≤ s.size ∧ i = .int .i64 k ∧ Hid (nameFrom (k == 0) (s.data.toList.drop k) = nameFrom true s.data.toList)) (fun i => s.size - (intOf i).toNat)
  case atStart => exact ⟨0, Nat.zero_le _, rfl, rfl⟩
  case round =>
    obtain ⟨k, hk, rfl, hp⟩ := hrel
    by_cases hlt : k < s.size
    · have HA := Lib.hid (nameFrom_at hlt)
      have hnext : byteOk k s[k] = true → Hid (nameFrom (k + 1 == 0) (s.data.toList.drop (k + 1)) = nameFrom true s.data.toList) := by
        intro hb
        show _ = _
        rw [← hp.out, HA.out]
        unfold byteOk at hb
        rw [hb]
        rfl
      have hstop : byteOk k s[k] = false → isName s.data.toList = false := by
        intro hb
        rw [isName_size, ← hp.out, HA.out]
        unfold byteOk at hb
        rw [hb]
        simp
      have HN := Lib.hid hnext
      have HS := Lib.hid hstop
      clear hnext hstop
      by_cases h1 : small s[k] = true
      · have b1 := small_t h1
        have hb := Lib.hid (show byteOk k s[k] = true by unfold byteOk; rw [h1]; rfl)
        clear h1
        go_wp2
        all_goals
          go_round
          case rel => exact ⟨k + 1, by omega, by go_num, HN.out hb.out⟩
          case measure => simp [intOf]; omega
      · have h1' : small s[k] = false := by simpa using h1
        have b1 := small_f h1'
        by_cases h2 : k = 0
        · have hb := Lib.hid (byteOk_first h1' h2)
          have h2' : ((k : Int) == 0) = true := by rw [h2]; rfl
          clear h1 h1' h2
          rcases b1 with b1 | b1
          all_goals
            try have bd2 : decide ((s[k].toNat : Int) ≤ 122) = false := decide_eq_false (by omega)
            go_wp2
            all_goals (go_ret; exact ⟨ret_bool (HS.out hb.out).symm, rfl⟩)
        · have h2' : ((k : Int) == 0) = false := by simpa using h2
          by_cases h3 : (s[k].toNat : Int) = 95
          · have h3' : ((s[k].toNat : Int) != 95) = false := by simp [h3]
            have hb := Lib.hid (show byteOk k s[k] = true by unfold byteOk nameB; simp [h1', h2, h3])
            clear h1 h1' h2 h3
            rcases b1 with b1 | b1
            all_goals
              go_wp2
              all_goals
                go_round
                case rel => exact ⟨k + 1, by omega, by go_num, HN.out hb.out⟩
                case measure => simp [intOf]; omega
          · have h3' : ((s[k].toNat : Int) != 95) = true := by simp [h3]
            by_cases h4 : digit s[k] = true
            · have b2 := digit_t h4
              have hb := Lib.hid (show byteOk k s[k] = true by unfold byteOk nameB; simp [h1', h2, h3, h4])
              clear h1 h1' h2 h3 h4
              rcases b1 with b1 | b1
              all_goals
                go_wp2
                all_goals
                  go_round
                  case rel => exact ⟨k + 1, by omega, by go_num, HN.out hb.out⟩
                  case measure => simp [intOf]; omega
            · have h4' : digit s[k] = false := by simpa using h4
              have b2 := digit_f h4'
              have hb := Lib.hid (show byteOk k s[k] = false by unfold byteOk nameB; simp [h1', h2, h3, h4'])
              clear h1 h1' h2 h3 h4 h4'
              rcases b1 with b1 | b1 <;> rcases b2 with b2 | b2
              all_goals first
                | (exfalso; omega)
                | (try have bd2 : decide ((s[k].toNat : Int) ≤ 122) = false := decide_eq_false (by omega)
                   go_wp2
                   all_goals (go_ret; exact ⟨ret_bool (HS.out hb.out).symm, rfl⟩))
    · obtain rfl : k = s.size := by omega
      have HE := Lib.hid (nameFrom_end (s := s) (s.size == 0))
      have HF : Hid (isName s.data.toList = inB s.size 1 16) := by
        show _ = _
        rw [isName_size, ← hp.out, HE.out, Bool.and_true]
      go_wp2
      all_goals (go_ret; exact ⟨ret_bool (by rw [HF.out, inB_eq]; simp; try omega), rfl⟩)

set_option maxHeartbeats 1000000 in
theorem rIsName_ (s : ByteArray) (w : World) (hs : s.size ≤ maxLen) :
    Calls Tryd.prog 84 #[.string s] w fun e w' => e = .returned (.bool (isName s.data.toList)) ∧ w = w' := by
  unfold maxLen at hs
  by_cases hz : inB s.size 1 16 = true
  · have bz := inB_true.1 hz
    have h0 : 0 < s.size := by omega
    have HZ := Lib.hid (isName_size s)
    have HT := Lib.hid (nameTrue_of h0)
    have HW := Lib.hid hz
    clear hz
    by_cases h1 : small s[0] = true
    · have b1 := small_t h1
      have HI : Hid (isName s.data.toList = nameFrom false (s.data.toList.drop 0)) := by
        show _ = _
        rw [HZ.out, HW.out, HT.out, h1]
        rfl
      clear h1
      go_enter Tryd.func84, Tryd.ntmps84
      go_wp2
      go_loop [3] (fun i => ∃ k : Nat, k ≤ s.size ∧ i = .int .i64 k ∧ Hid (nameFrom false (s.data.toList.drop k) = isName s.data.toList)) (fun i => s.size - (intOf i).toNat)
      case atStart => exact ⟨0, Nat.zero_le _, rfl, HI.out.symm⟩
      case round =>
        clear b1
        obtain ⟨k, hk, rfl, hp⟩ := hrel
        by_cases hlt : k < s.size
        · have HA := Lib.hid (nameFalse_at hlt)
          have hnext : nameB s[k] = true → Hid (nameFrom false (s.data.toList.drop (k + 1)) = isName s.data.toList) := by
            intro hb
            show _ = _
            rw [← hp.out, HA.out, hb]
            rfl
          have hstop : nameB s[k] = false → isName s.data.toList = false := by
            intro hb
            rw [← hp.out, HA.out, hb]
            rfl
          have HN := Lib.hid hnext
          have HS := Lib.hid hstop
          clear hnext hstop
          by_cases h2 : small s[k] = true
          · have b2 := small_t h2
            have hb := Lib.hid (show nameB s[k] = true by unfold nameB; simp [h2])
            clear h2
            go_wp2
            all_goals
              go_round
              case rel => exact ⟨k + 1, by omega, by go_num, HN.out hb.out⟩
              case measure => simp [intOf]; omega
          · have h2' : small s[k] = false := by simpa using h2
            have b2 := small_f h2'
            by_cases h4 : digit s[k] = true
            · have b4 := digit_t h4
              have hb := Lib.hid (show nameB s[k] = true by unfold nameB; simp [h4])
              clear h2 h2' h4
              rcases b2 with b2 | b2
              all_goals
                go_wp2
                all_goals
                  go_round
                  case rel => exact ⟨k + 1, by omega, by go_num, HN.out hb.out⟩
                  case measure => simp [intOf]; omega
            · have h4' : digit s[k] = false := by simpa using h4
              have b4 := digit_f h4'
              by_cases h3 : (s[k].toNat : Int) = 95
              · have h3' : ((s[k].toNat : Int) != 95) = false := by simp [h3]
                have hb := Lib.hid (show nameB s[k] = true by unfold nameB; simp [h3])
                clear h2 h2' h3 h4 h4'
                rcases b2 with b2 | b2 <;> rcases b4 with b4 | b4
                all_goals first
                  | (exfalso; omega)
                  | (go_wp2
                     all_goals
                       go_round
                       case rel => exact ⟨k + 1, by omega, by go_num, HN.out hb.out⟩
                       case measure => simp [intOf]; omega)
              · have h3' : ((s[k].toNat : Int) != 95) = true := by simp [h3]
                have hb := Lib.hid (show nameB s[k] = false by unfold nameB; simp [h2', h4', h3])
                clear h2 h2' h3 h4 h4'
                rcases b2 with b2 | b2 <;> rcases b4 with b4 | b4
                all_goals first
                  | (exfalso; omega)
                  | (go_wp2
                     all_goals (go_ret; exact ⟨ret_bool (HS.out hb.out).symm, rfl⟩))
        · obtain rfl : k = s.size := by omega
          have HE := Lib.hid (nameFrom_end (s := s) false)
          go_wp2
          all_goals (go_ret; exact ⟨ret_bool (by rw [← hp.out, HE.out]), rfl⟩)
    · have h1' : small s[0] = false := by simpa using h1
      have b1 := small_f h1'
      have HI : Hid (isName s.data.toList = false) := by
        show _ = _
        rw [HZ.out, HT.out, h1']
        simp
      clear h1 h1'
      rcases b1 with b1 | b1
      all_goals
        go_enter Tryd.func84, Tryd.ntmps84
        go_wp2
        go_ret
        exact ⟨ret_bool HI.out.symm, rfl⟩
  · have hz' : inB s.size 1 16 = false := by simpa using hz
    have bz := inB_false.1 hz'
    have HI : Hid (isName s.data.toList = false) := by
      show _ = _
      rw [isName_size, hz']
      rfl
    clear hz hz'
    rcases bz with bz | bz
    all_goals
      go_enter Tryd.func84, Tryd.ntmps84
      go_wp2
      go_ret
      exact ⟨ret_bool HI.out.symm, rfl⟩
end Go.Proofs.YtohfofecbdfkgaaDoor
