/-
  The walks of Cut, Words, digits and word.
-/
import Derived.Test.YtohfofecbdfkgaaGreatDoorNa
namespace Go.Proofs.YtohfofecbdfkgaaGreatDoor
open Go.RowKit Al

/-- Strings in memory of the call's own. -/
def OwnSs (m : Nat) (l : List (List UInt8)) (w : World) (e : Ending) (w' : World) : Prop :=
  ∃ (ws : List ByteArray) (A : Option Addr) (c : Nat), lst ws = l ∧ e = .returned (.slice A ws.length c) ∧ w'.ownsRow w.heap.size 9 1 (.slice A ws.length c) ws.length (strs ws) ∧ (∀ x ∈ ws, x.size ≤ m) ∧ Below w.heap.size w w'
theorem cut_part {l : List UInt8} {f k : Nat} (hf : f ≤ k) (hk : k < l.length) : l.drop f = (l.drop f).take (k - f) ++ l[k] :: l.drop (k + 1) := by
  have h1 : (l.drop f).drop (k - f) = l.drop k := by rw [List.drop_drop]; congr 1; omega
  have h2 : l.drop k = l[k] :: l.drop (k + 1) := List.drop_eq_getElem_cons hk
  rw [← h2, ← h1, List.take_append_drop]
theorem take_next {l : List UInt8} {f k : Nat} (hf : f ≤ k) (hk : k < l.length) : (l.drop f).take (k + 1 - f) = (l.drop f).take (k - f) ++ [l[k]] := by
  rw [show k + 1 - f = (k - f) + 1 by omega, List.take_succ_eq_append_getElem (by rw [List.length_drop]; omega), List.getElem_drop]
  congr 2
  congr 1
  omega
theorem cut_hit {l : List UInt8} {b : UInt8} {f k : Nat} (hf : f ≤ k) (hk : k < l.length) (hb : l[k] = b) (hno : b ∉ (l.drop f).take (k - f)) : cutAt b (l.drop f) = (l.drop f).take (k - f) :: cutAt b (l.drop (k + 1)) := by
  have h := cut_part hf hk
  rw [hb] at h
  have h2 := cutAt_app (l.drop (k + 1)) hno
  rw [← h] at h2
  exact h2
def CuRel (s : ByteArray) (b : UInt8) (w : World) (o f i : Value) (wr : World) : Prop :=
  ∃ (k p : Nat) (ws : List ByteArray) (A : Option Addr) (c : Nat), k ≤ s.size ∧ p ≤ k ∧ ws.length ≤ p ∧ o = .slice A ws.length c ∧ f = .int .i64 p ∧ i = .int .i64 k ∧ Hid (cutAt b s.data.toList = lst ws ++ cutAt b (s.data.toList.drop p)) ∧ Hid (b ∉ (s.data.toList.drop p).take (k - p)) ∧ Hid (∀ x ∈ ws, x.size ≤ s.size) ∧
    Hid (wr.ownsRow w.heap.size 9 1 (.slice A ws.length c) ws.length (strs ws)) ∧ Hid (Below w.heap.size w wr)
set_option maxRecDepth 100000 in
set_option maxHeartbeats 4000000 in
theorem Cut_ (s : ByteArray) (b : UInt8) (w : World) (hs : s.size ≤ 65536) : Calls Tryz.prog 85 #[.string s, .int .u8 b.toNat] w (OwnSs s.size (cutAt b s.data.toList) w) := by
  obtain ⟨i0, hi, hz0, hz1, hz2⟩ := info_parts infoStr
  have HL : Hid (s.data.toList.length = s.size) := Array.length_toList
  go_enter Tryz.func85, Tryz.ntmps85
  go_wp2_with fail
  go_loopw [5, 6, 7] (fun o f i wr => CuRel s b w o f i wr) (fun _ _ i _ => s.size - (Go.RowKit.intOf i).toNat)
  case atStart => exact ⟨0, 0, [], none, 0, Nat.zero_le _, Nat.le_refl _, Nat.le_refl _, rfl, rfl, rfl, Lib.hid rfl, Lib.hid (by simp), Lib.hid (fun x hx => (nomatch hx)), Lib.hid (World.ownsRow_nil _ _ _ _), Lib.hid (Below.refl _ _)⟩
  case round =>
    obtain ⟨k, p, ws, A, c, hk, hp, hwl, rfl, rfl, rfl, HC, HN, HS, HO, HB⟩ := hrel
    have hsz := HB.out.size
    have p0 : (0 : Int) ≤ (p : Int) := by omega
    have p1 : (p : Int) ≤ (k : Int) := by omega
    have p2 : (k : Int) ≤ (s.size : Int) := by omega
    have p3 : (p : Int) ≤ (s.size : Int) := by omega
    by_cases hlt : k < s.size
    · have HLK : Hid (s.data.toList[k]'(by rw [HL.out]; exact hlt) = s[k]) := rfl
      have i0' : (0 : Int) ≤ (k : Int) := by omega
      have i1' : (k : Int) < (s.size : Int) := by omega
      cases hq : ((s[k].toNat : Int) == (b.toNat : Int)) with
      | true =>
        have HE : Hid (s[k] = b) := UInt8.toNat_inj.1 (by have := eq_of_beq hq; omega)
        go_wp2_with (at_builtin; refine wpList_append_lies _ rfl _ _ 83 rfl w.heap.size 9 i0 (.string ⟨#[]⟩) 1 16 Tryz.underlying83 hi hz0 hz1 hz2 rfl (by decide) (.slice A ws.length c) ws.length (strs ws) rfl (own_below HO.out (Nat.le_refl _) (by (repeat (first | exact Below.refl _ _ | assumption | refine below_drewN ?_ _ | refine Below.drew ?_ | refine Below.setCell ?_ (by first | omega | (simp; done) | (simp; omega)) _ | refine Below.alloc ?_ (by first | omega | (simp; done) | (simp; omega)) _)))) _ 1 1 [.string (s.extract p k)] rfl rfl (World.news_of_block (heap_alloc_new wr _)) (strs_one [s.extract p k]) (by decide) (by unfold maxLen; omega) (by omega) (by simp; omega) _ rfl ?_; intro gA capA wA hownA hgA hatA hltA)
        go_roundw
        case rel =>
          refine ⟨k + 1, k + 1, ws ++ [s.extract p k], some ⟨gA, 0, none⟩, capA, by omega, Nat.le_refl _, by rw [List.length_append]; simp; omega, by rw [List.length_append]; rfl, by go_num, by go_num, ?_, ?_, ?_, ?_, ?_⟩
          · show _ = _
            rw [HC.out, lst_snoc, cut_hit hp (by rw [HL.out]; exact hlt) (HLK.out.trans HE.out) HN.out, Lib.extract_data, List.append_assoc]
            rfl
          · show _ ∉ _
            simp
          · intro x hx
            rcases List.mem_append.1 hx with hx | hx
            · exact HS.out x hx
            · rw [List.mem_singleton.1 hx, Lib.size_eq, Lib.extract_data, List.length_take]
              have := HL.out
              rw [List.length_drop]
              omega
          · show World.ownsRow _ _ _ _ _ _ _
            rw [strs_snoc, List.length_append]
            exact hownA
          · exact ((HB.out.alloc hsz _).grown hgA (by simp; omega) (fun g hg => own_base HO.out hg))
        case measure => simp [Go.RowKit.intOf]; omega
      | false =>
        have HE : Hid (s[k] ≠ b) := fun e => by rw [e] at hq; simp at hq
        go_wp2_with fail
        go_roundw
        case rel =>
          refine ⟨k + 1, p, ws, A, c, by omega, by omega, hwl, rfl, rfl, by go_num, HC, ?_, HS, HO, HB⟩
          show _ ∉ _
          rw [take_next hp (by rw [HL.out]; exact hlt)]
          intro h
          rcases List.mem_append.1 h with h | h
          · exact HN.out h
          · exact HE.out (HLK.out.symm.trans (List.mem_singleton.1 h).symm)
        case measure => simp [Go.RowKit.intOf]; omega
    · obtain rfl : k = s.size := by omega
      go_wp2_with (at_builtin; refine wpList_append_lies _ rfl _ _ 83 rfl w.heap.size 9 i0 (.string ⟨#[]⟩) 1 16 Tryz.underlying83 hi hz0 hz1 hz2 rfl (by decide) (.slice A ws.length c) ws.length (strs ws) rfl (own_below HO.out (Nat.le_refl _) (by (repeat (first | exact Below.refl _ _ | assumption | refine below_drewN ?_ _ | refine Below.drew ?_ | refine Below.setCell ?_ (by first | omega | (simp; done) | (simp; omega)) _ | refine Below.alloc ?_ (by first | omega | (simp; done) | (simp; omega)) _)))) _ 1 1 [.string (s.extract p s.size)] rfl rfl (World.news_of_block (heap_alloc_new wr _)) (strs_one [s.extract p s.size]) (by decide) (by unfold maxLen; omega) (by omega) (by simp; omega) _ rfl ?_; intro gA capA wA hownA hgA hatA hltA)
      go_ret
      have hd : (s.data.toList.drop p).take (s.size - p) = s.data.toList.drop p := List.take_of_length_le (by rw [List.length_drop, HL.out]; exact Nat.le_refl _)
      refine ⟨ws ++ [s.extract p s.size], some ⟨gA, 0, none⟩, capA, ?_, by rw [List.length_append]; rfl, ?_, ?_, (HB.out.alloc hsz _).grown hgA (by simp; omega) (fun g hg => own_base HO.out hg)⟩
      · have hn := HN.out
        rw [hd] at hn
        rw [HC.out, lst_snoc, Lib.extract_data, hd, cutAt_no hn]
      · rw [strs_snoc, List.length_append]
        exact hownA
      · intro x hx
        rcases List.mem_append.1 hx with hx | hx
        · exact HS.out x hx
        · rw [List.mem_singleton.1 hx, Lib.size_eq, Lib.extract_data, List.length_take]
          have := HL.out
          rw [List.length_drop]
          omega
def WoRel (w0 : World) (B : Nat) (m : Nat) (zs : List ByteArray) (o i : Value) (wr : World) : Prop :=
  ∃ (k : Nat) (ws : List ByteArray) (A : Option Addr) (c : Nat), k ≤ zs.length ∧ ws.length ≤ k ∧ o = .slice A ws.length c ∧ i = .int .i64 k ∧ Hid (lst ws = (lst (zs.take k)).filter fun p => !p.isEmpty) ∧ Hid (∀ x ∈ ws, x.size ≤ m) ∧ Hid (wr.ownsRow w0.heap.size 9 1 (.slice A ws.length c) ws.length (strs ws)) ∧ Hid (Below B w0 wr)
theorem lst_take {zs : List ByteArray} {k : Nat} (h : k < zs.length) : lst (zs.take (k + 1)) = lst (zs.take k) ++ [zs[k].data.toList] := by
  rw [List.take_succ_eq_append_getElem h, lst_snoc]
set_option maxRecDepth 100000 in
set_option maxHeartbeats 4000000 in
theorem Words_ (s : ByteArray) (w : World) (hs : s.size ≤ 65536) : Calls Tryz.prog 87 #[.string s] w (OwnSs s.size (wordsOf s.data.toList) w) := by
  obtain ⟨i0, hi, hz0, hz1, hz2⟩ := info_parts infoStr
  go_enter Tryz.func87, Tryz.ntmps87
  go_wp2_with fail
  refine (Cut_ s 32 _ hs).mono ?_
  rintro e w1 ⟨zs, Z, zc, hz, rfl, hown, hsz0, hb⟩
  have hB1 := hb.size
  have HB1 := Lib.hid hb
  have HZ := Lib.hid hz
  have HS0 := Lib.hid hsz0
  have HR := Lib.hid (Sl.of_own hown)
  have hzl : zs.length ≤ s.size + 1 := by
    have h1 : (lst zs).length ≤ s.data.toList.length + 1 := by rw [hz]; exact cutAt_len 32 _
    rw [lst_len] at h1
    simpa using h1
  clear hb hz hown hsz0
  go_wp2_with fail
  go_loopw [3, 5] (fun o i wr => WoRel w1 w1.heap.size s.size zs o i wr) (fun _ i _ => zs.length - (Go.RowKit.intOf i).toNat)
  case atStart => exact ⟨0, [], none, 0, Nat.zero_le _, Nat.zero_le _, rfl, rfl, Lib.hid rfl, Lib.hid (fun x hx => (nomatch hx)), Lib.hid (World.ownsRow_nil _ _ _ _), Lib.hid (Below.refl _ _)⟩
  case round =>
    obtain ⟨k, ws, A, c, hk, hwl, rfl, rfl, HC, HS, HO, HB⟩ := hrel
    have hsz := HB.out.size
    by_cases hlt : k < zs.length
    · obtain ⟨zb, zo, rfl, hzb, z0⟩ := (HR.out.below HB.out).str_at hlt
      have i0' : (0 : Int) ≤ (k : Int) := by omega
      have i1' : (k : Int) < (zs.length : Int) := by omega
      have hzb2 : zb < wr.heap.size := by omega
      have HT := Lib.hid (lst_take hlt)
      have HM := Lib.hid (HS0.out zs[k] (List.getElem_mem hlt))
      obtain ⟨x, hx⟩ : ∃ x, x = zs[k] := ⟨_, rfl⟩
      rw [← hx] at z0 HT HM
      clear hx
      by_cases hq : x.data.toList = []
      · have hq1 : x.toList.isEmpty = true := by rw [Lib.toList_data, hq]; rfl
        have hq2 : x.toList = [] := by rw [Lib.toList_data, hq]
        have HQ := Lib.hid hq
        clear hq
        go_wp2_with fail
        go_roundw
        case rel =>
          refine ⟨k + 1, ws, A, c, by omega, by omega, rfl, by go_num, ?_, HS, HO, HB⟩
          show _ = _
          rw [HT.out, List.filter_append, ← HC.out, HQ.out]
          simp
        case measure => simp [Go.RowKit.intOf]; omega
      · have hq1 : x.toList.isEmpty = false := by rw [Lib.toList_data]; simpa using hq
        have HQ := Lib.hid hq
        clear hq
        go_wp2_with (at_builtin; refine wpList_append_lies _ rfl _ _ 83 rfl w1.heap.size 9 i0 (.string ⟨#[]⟩) 1 16 Tryz.underlying83 hi hz0 hz1 hz2 rfl (by decide) (.slice A ws.length c) ws.length (strs ws) rfl (own_below HO.out (Nat.le_refl _) (by (repeat (first | exact Below.refl _ _ | assumption | refine below_drewN ?_ _ | refine Below.drew ?_ | refine Below.setCell ?_ (by first | omega | (simp; done) | (simp; omega)) _ | refine Below.alloc ?_ (by first | omega | (simp; done) | (simp; omega)) _)))) _ 1 1 [.string x] rfl rfl (World.news_of_block (heap_alloc_new wr _)) (strs_one [x]) (by decide) (by unfold maxLen; omega) (by omega) (by simp; omega) _ rfl ?_; intro gA capA wA hownA hgA hatA hltA)
        go_roundw
        case rel =>
          refine ⟨k + 1, ws ++ [x], some ⟨gA, 0, none⟩, capA, by omega, by rw [List.length_append]; simp; omega, by rw [List.length_append]; rfl, by go_num, ?_, ?_, ?_, ?_⟩
          · show _ = _
            rw [HT.out, List.filter_append, ← HC.out, lst_snoc]
            congr 1
            rw [List.filter_cons, if_pos (by simpa using HQ.out)]
            rfl
          · intro y hy
            rcases List.mem_append.1 hy with hy | hy
            · exact HS.out y hy
            · rw [List.mem_singleton.1 hy]; exact HM.out
          · show World.ownsRow _ _ _ _ _ _ _
            rw [strs_snoc, List.length_append]
            exact hownA
          · exact ((HB.out.alloc hsz _).grown hgA (by simp; omega) (fun g hg => own_base HO.out hg))
        case measure => simp [Go.RowKit.intOf]; omega
    · obtain rfl : k = zs.length := by omega
      go_wp2_with fail
      go_ret
      refine ⟨ws, A, c, ?_, rfl, own_more HO.out hB1, HS.out, HB1.out.trans (HB.out.mono hB1)⟩
      rw [HC.out, List.take_length, HZ.out]
      rfl
theorem digits_ (ws : List ByteArray) (A : Option Addr) (c i : Nat) (w : World) (h : Sl w w.heap.size 1 A ws.length c (strs ws)) (hm : ∀ x ∈ ws, x.size ≤ 65536) (hi : i ≤ 1000000) :
    Calls Tryz.prog 88 #[.slice A ws.length c, .int .i64 i] w fun e w' => e = .returned (.int .i64 (digitsB (lst ws) i)) ∧ w = w' := by
  have hl := Nat.le_trans h.cap h.max
  unfold maxLen at hl
  by_cases hlt : i < ws.length
  · obtain ⟨b, off, rfl, hb, z0⟩ := h.str_at hlt
    have i0 : (0 : Int) ≤ (i : Int) := by omega
    have i1 : (i : Int) < (ws.length : Int) := by omega
    have HV : Hid (digitsB (lst ws) i = natB ws[i].data.toList) := by show _ = _; unfold digitsB; rw [lst_get hlt]
    have hx := hm ws[i] (List.getElem_mem hlt)
    have HX : Hid (ws[i].size ≤ maxLen) := by unfold maxLen; show _ ≤ _; omega
    obtain ⟨x, hx⟩ : ∃ x, x = ws[i] := ⟨_, rfl⟩
    rw [← hx] at z0 HV HX
    clear hx h hm
    go_enter Tryz.func88, Tryz.ntmps88
    go_wp2_with (go_at_call 126; refine (natural_ x w HX.out).mono ?_; rintro e w1 ⟨⟨bb, rfl⟩, rfl⟩)
    go_ret
    exact ⟨ret_int (by rw [HV.out]), rfl⟩
  · have HV : Hid (digitsB (lst ws) i = 0) := by show _ = _; unfold digitsB; rw [List.getElem?_eq_none (by rw [lst_len]; omega)]
    have i1 : ¬ (i : Int) < (ws.length : Int) := by omega
    clear h hm
    go_enter Tryz.func88, Tryz.ntmps88
    go_wp2_with fail
    go_ret
    exact ⟨ret_int (by rw [HV.out]), rfl⟩
theorem word_ (ws : List ByteArray) (A : Option Addr) (c i : Nat) (w : World) (h : Sl w w.heap.size 1 A ws.length c (strs ws)) (hi : i ≤ 1000000) :
    Calls Tryz.prog 86 #[.slice A ws.length c, .int .i64 i] w fun e w' => e = .returned (.string ⟨(wordB (lst ws) i).toArray⟩) ∧ w = w' := by
  have hl := Nat.le_trans h.cap h.max
  unfold maxLen at hl
  by_cases hlt : i < ws.length
  · obtain ⟨b, off, rfl, hb, z0⟩ := h.str_at hlt
    have i0 : (0 : Int) ≤ (i : Int) := by omega
    have i1 : (i : Int) < (ws.length : Int) := by omega
    have HV : Hid ((⟨(wordB (lst ws) i).toArray⟩ : ByteArray) = ws[i]) := by
      unfold wordB
      rw [List.getD_eq_getElem?_getD, lst_get hlt]
      rfl
    obtain ⟨x, hx⟩ : ∃ x, x = ws[i] := ⟨_, rfl⟩
    rw [← hx] at z0 HV
    clear hx h
    go_enter Tryz.func86, Tryz.ntmps86
    go_wp2_with fail
    go_ret
    exact ⟨by rw [HV.out]; rfl, rfl⟩
  · have HV : Hid (wordB (lst ws) i = []) := by unfold wordB; rw [List.getD_eq_getElem?_getD, List.getElem?_eq_none (by rw [lst_len]; omega)]; rfl
    have i1 : ¬ (i : Int) < (ws.length : Int) := by omega
    clear h
    go_enter Tryz.func86, Tryz.ntmps86
    go_wp2_with fail
    go_ret
    exact ⟨by rw [HV.out]; rfl, rfl⟩
theorem digitsI_ (ws : List ByteArray) (l : List (List UInt8)) (hl : lst ws = l) (A : Option Addr) (c : Nat) (i : Int) (w : World) (h : Sl w w.heap.size 1 A ws.length c (strs ws)) (hm : ∀ x ∈ ws, x.size ≤ 65536) (h0 : 0 ≤ i) (hi : i ≤ 1000000) :
    Calls Tryz.prog 88 #[.slice A ws.length c, .int .i64 i] w fun e w' => e = .returned (.int .i64 (digitsB l i.toNat)) ∧ w = w' := by
  have := digits_ ws A c i.toNat w h hm (by omega)
  rw [Int.toNat_of_nonneg h0, hl] at this
  exact this
end Go.Proofs.YtohfofecbdfkgaaGreatDoor
