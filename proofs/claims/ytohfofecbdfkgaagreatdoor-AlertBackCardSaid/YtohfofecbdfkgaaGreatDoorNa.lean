/-
  The walks of Natural, digits and word.
-/
import Derived.Test.YtohfofecbdfkgaaGreatDoorPb
import Derived.Test.YtohfofecbdfkgaaGreatDoorU02
import Derived.Test.YtohfofecbdfkgaaGreatDoorU18
import Derived.IntWalk
namespace Go.Proofs.YtohfofecbdfkgaaGreatDoor
open Go.RowKit Al

def NatT (v : Int) (w : World) (e : Ending) (w' : World) : Prop := (∃ b : Bool, e = .returned (.tuple #[.int .i64 v, .bool b])) ∧ w = w'
theorem valL_lt : ∀ (l : List UInt8) (acc k : Nat), (∀ b ∈ l, 48 ≤ b.toNat ∧ b.toNat ≤ 57) → acc < 10 ^ k → l.foldl (fun n b => n * 10 + (b.toNat - 48)) acc < 10 ^ (k + l.length)
  | [], acc, k, _, h => h
  | b :: l, acc, k, hd, h => by
    have hb := hd b List.mem_cons_self
    have := valL_lt l (acc * 10 + (b.toNat - 48)) (k + 1) (fun c hc => hd c (List.mem_cons_of_mem _ hc)) (by rw [Nat.pow_succ]; omega)
    rw [List.foldl_cons, List.length_cons, show k + (l.length + 1) = k + 1 + l.length by omega]
    exact this
theorem val_next {s : ByteArray} {k : Nat} (h : k < s.size) : valL (s.data.toList.take (k + 1)) = valL (s.data.toList.take k) * 10 + (s[k].toNat - 48) := by
  rw [List.take_succ_eq_append_getElem (by simpa using h), valL_snoc]
  rfl
theorem val_bound {s : ByteArray} {k : Nat} (hk : k ≤ 10) (hd : ∀ b ∈ s.data.toList.take k, 48 ≤ b.toNat ∧ b.toNat ≤ 57) : valL (s.data.toList.take k) ≤ 9999999999 := by
  have h := valL_lt (s.data.toList.take k) 0 0 hd (by decide)
  have hl : (s.data.toList.take k).length ≤ 10 := by rw [List.length_take]; omega
  have h2 : 10 ^ (0 + (s.data.toList.take k).length) ≤ 10 ^ 10 := Nat.pow_le_pow_right (by decide) (by omega)
  have h3 : valL (s.data.toList.take k) < 10 ^ (0 + (s.data.toList.take k).length) := h
  omega
theorem natB_short {l : List UInt8} (h : l.length < 1 ∨ 10 < l.length ∨ (l.headD 0 = 48 ∧ 1 < l.length)) : natB l = 0 := by unfold natB; rw [if_pos h]
theorem natB_all {l : List UInt8} (h : ¬ (l.length < 1 ∨ 10 < l.length ∨ (l.headD 0 = 48 ∧ 1 < l.length))) (hd : ∀ b ∈ l, 48 ≤ b.toNat ∧ b.toNat ≤ 57) : natB l = (valL l : Int) := by
  unfold natB
  rw [if_neg h, if_pos (List.all_eq_true.2 fun b hb => decide_eq_true (hd b hb))]
theorem natB_no {l : List UInt8} {b : UInt8} (hb : b ∈ l) (hd : ¬ (48 ≤ b.toNat ∧ b.toNat ≤ 57)) : natB l = 0 := by
  unfold natB
  split
  · rfl
  · rw [if_neg]
    intro h
    exact hd (of_decide_eq_true (List.all_eq_true.1 h b hb))
theorem headD_get : ∀ {l : List UInt8} (h : 0 < l.length), l.headD 0 = l[0]
  | [], h => absurd h (by simp)
  | _ :: _, _ => rfl
theorem head_at {s : ByteArray} (h : 0 < s.size) : s.data.toList.headD 0 = s[0] := headD_get (by simpa using h)
set_option maxRecDepth 100000 in
set_option maxHeartbeats 1000000 in
theorem natural_ (s : ByteArray) (w : World) (hs : s.size ≤ maxLen) : Calls Tryz.prog 126 #[.string s, .int .i64 10] w (NatT (natB s.data.toList) w) := by
  unfold maxLen at hs
  have hlen : s.data.toList.length = s.size := Array.length_toList
  have HL := Lib.hid hlen
  clear hlen
  by_cases h1 : s.size < 1
  · have HV := Lib.hid (natB_short (l := s.data.toList) (.inl (by rw [HL.out]; exact h1)))
    have h1' : (s.size : Int) < 1 := by omega
    go_enter Tryz.func126, Tryz.ntmps126
    go_wp2_with fail
    go_ret2
    exact ⟨⟨_, by rw [HV.out]; rfl⟩, rfl⟩
  · by_cases h2 : 10 < s.size
    · have HV := Lib.hid (natB_short (l := s.data.toList) (.inr (.inl (by rw [HL.out]; exact h2))))
      have h1' : ¬ (s.size : Int) < 1 := by omega
      have h2' : (10 : Int) < (s.size : Int) := by omega
      go_enter Tryz.func126, Tryz.ntmps126
      go_wp2_with fail
      go_ret2
      exact ⟨⟨_, by rw [HV.out]; rfl⟩, rfl⟩
    · have h0 : 0 < s.size := by omega
      have h1' : ¬ (s.size : Int) < 1 := by omega
      have h2' : ¬ (10 : Int) < (s.size : Int) := by omega
      have h3' : ¬ (18 : Int) < (s.size : Int) := by omega
      have hh := head_at h0
      by_cases h3 : s[0].toNat = 48 ∧ 1 < s.size
      · obtain ⟨h3, h4⟩ := h3
        have HV := Lib.hid (natB_short (l := s.data.toList) (.inr (.inr ⟨by rw [hh]; exact UInt8.toNat_inj.1 (by rw [h3]; rfl), by rw [HL.out]; exact h4⟩)))
        have e0 : ((s[0].toNat : Int) == 48) = true := by simp [h3]
        have h4' : (1 : Int) < (s.size : Int) := by omega
        clear hh h3
        go_enter Tryz.func126, Tryz.ntmps126
        go_wp2_with fail
        go_ret2
        exact ⟨⟨_, by rw [HV.out]; rfl⟩, rfl⟩
      · have HN : Hid (¬ (s.data.toList.length < 1 ∨ 10 < s.data.toList.length ∨ (s.data.toList.headD 0 = 48 ∧ 1 < s.data.toList.length))) := by
          show ¬ _
          rw [HL.out, hh]
          rintro (h | h | ⟨h, h5⟩)
          · omega
          · omega
          · exact h3 ⟨by rw [h]; rfl, h5⟩
        have h5 : ((s[0].toNat : Int) == 48) = false ∨ (((s[0].toNat : Int) == 48) = true ∧ ¬ (1 : Int) < (s.size : Int)) := by
          by_cases h6 : s[0].toNat = 48
          · exact .inr ⟨by simp [h6], fun h => h3 ⟨h6, by omega⟩⟩
          · exact .inl (by simp; omega)
        clear hh h3
        rcases h5 with h5 | ⟨h5, h6⟩
        all_goals
          go_enter Tryz.func126, Tryz.ntmps126
          go_wp2_with fail
          clear h5
          go_loop [6, 7] (fun n i => ∃ k : Nat, k ≤ s.size ∧ i = .int .i64 k ∧ n = .int .i64 (valL (s.data.toList.take k) : Nat) ∧ Hid (∀ b ∈ s.data.toList.take k, 48 ≤ b.toNat ∧ b.toNat ≤ 57)) (fun _ i => s.size - (intOf i).toNat)
          case atStart => exact ⟨0, Nat.zero_le _, rfl, rfl, Lib.hid (fun b hb => by simp at hb)⟩
          case round =>
            obtain ⟨k, hk, rfl, rfl, HD⟩ := hrel
            have hvb := val_bound (by omega) HD.out
            obtain ⟨v, hv⟩ : ∃ v, valL (s.data.toList.take k) = v := ⟨_, rfl⟩
            rw [hv] at hvb
            have HVV := Lib.hid hv
            rw [hv]
            clear hv
            by_cases hlt : k < s.size
            · by_cases hdg : 48 ≤ s[k].toNat ∧ s[k].toNat ≤ 57
              · obtain ⟨d1, d2⟩ := hdg
                have d1' : ¬ (s[k].toNat : Int) < 48 := by omega
                have d2' : ¬ (57 : Int) < (s[k].toNat : Int) := by omega
                have hsub : IntKind.u8.wrap ((s[k].toNat : Int) - 48) = (s[k].toNat : Int) - 48 := IntWalk.u8_in _ (by omega)
                have HNX := Lib.hid (val_next hlt)
                have HD2 : Hid (∀ b ∈ s.data.toList.take (k + 1), 48 ≤ b.toNat ∧ b.toNat ≤ 57) := fun b hb => by
                  rw [List.take_succ_eq_append_getElem (by simpa using hlt)] at hb
                  rcases List.mem_append.1 hb with hb | hb
                  · exact HD.out b hb
                  · rw [List.mem_singleton.1 hb]; exact ⟨d1, d2⟩
                go_wp2_with fail
                go_round
                case rel => exact ⟨k + 1, by omega, by go_num, by rw [HNX.out, HVV.out]; congr 1; clear hsub; omega, HD2⟩
                case measure => simp [intOf]; omega
              · have HV := Lib.hid (natB_no (l := s.data.toList) (b := s[k]) (Array.getElem_mem_toList hlt) hdg)
                have hd' : (s[k].toNat : Int) < 48 ∨ (¬ (s[k].toNat : Int) < 48 ∧ (57 : Int) < (s[k].toNat : Int)) := by omega
                clear hdg
                rcases hd' with d | ⟨d, d'⟩
                all_goals
                  go_wp2_with fail
                  go_ret2
                  exact ⟨⟨_, by rw [HV.out]; rfl⟩, rfl⟩
            · obtain rfl : k = s.size := by omega
              have HV : Hid (natB s.data.toList = (v : Int)) := by
                show _ = _
                rw [natB_all HN.out (by have := HD.out; rwa [List.take_of_length_le (by rw [HL.out]; exact Nat.le_refl _)] at this), ← HVV.out, List.take_of_length_le (by rw [HL.out]; exact Nat.le_refl _)]
              go_wp2_with fail
              go_ret2
              exact ⟨⟨_, by rw [HV.out]; rfl⟩, rfl⟩
end Go.Proofs.YtohfofecbdfkgaaGreatDoor
