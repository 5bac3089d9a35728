/-
  The lines of a string, one by one: the walk of strings.Lines and of the function that it returns.
-/
import Derived.Test.YtohfofecbdfkgaaGreatDoorRb
import Derived.Test.YtohfofecbdfkgaaGreatDoorCt
import Derived.Test.YtohfofecbdfkgaaGreatDoorSh2
import Derived.Lib.IndexLaws
import Derived.Shelf.RegionOpen
namespace Go.Proofs.YtohfofecbdfkgaaGreatDoor
open Go.RowKit
attribute [local go_sem] Oper.semAt_some

theorem lines_cut {l : List UInt8} {o : Nat} (h : Lib.indexByte l 10 = o) : linesOf l = l.take (o + 1) :: linesOf (l.drop (o + 1)) ∧ o + 1 ≤ l.length := by
  obtain ⟨h1, h2⟩ := Lib.indexByte_some h
  obtain ⟨ho, h3⟩ := List.getElem?_eq_some_iff.1 h1
  have hno : (10 : UInt8) ∉ l.take o := fun hm => by
    obtain ⟨k, hk, e⟩ := List.mem_iff_getElem.1 hm
    rw [List.length_take] at hk
    exact h2 k (by omega) (by rw [List.getElem?_eq_getElem (by omega)]; rw [List.getElem_take] at e; rw [e])
  have e : l = l.take o ++ 10 :: l.drop (o + 1) := by
    conv => lhs; rw [← List.take_append_drop o l, List.drop_eq_getElem_cons ho, h3]
  have h4 := linesOf_app (l.drop (o + 1)) hno
  rw [← e] at h4
  refine ⟨?_, ho⟩
  rw [h4, List.take_succ_eq_append_getElem ho, h3]
theorem lines_last {l : List UInt8} (h : Lib.indexByte l 10 = -1) (hl : l ≠ []) : linesOf l = [l] :=
  linesOf_no hl fun hm => by
    obtain ⟨k, hk, e⟩ := List.mem_iff_getElem.1 hm
    exact Lib.indexByte_none h k (by rw [List.getElem?_eq_getElem hk, e])

set_option maxRecDepth 100000 in
theorem Lines_ (s : ByteArray) (w : World) : Calls Tryz.prog 81 #[.string s] w fun e w' => e = .returned (.func (.func 120) #[] #[.pointer (some ⟨w.heap.size, 0, none⟩)]) ∧ w' = w.alloc (.cells #[.string s] 9) := by
  go_enter Tryz.func81, Tryz.ntmps81
  go_wp2_with fail
  go_ret
  exact ⟨rfl, rfl⟩
theorem ib_ (t : ByteArray) (v : Int) (w : World) (h : Lib.indexByte t.data.toList 10 = v) : Calls Tryz.prog 121 #[.string t, .int .u8 10] w fun e w' => e = .returned (.int .i64 v) ∧ w = w' :=
  (Tryz.strings_IndexByte t 10 w).mono fun _ _ ⟨he, hw⟩ => ⟨by rw [he]; exact congrArg (fun z => Ending.returned (.int .i64 z)) h, hw.symm⟩
/-- A line that is short. -/
abbrev Lin := { x : ByteArray // x.size ≤ 65536 }
def lnL (xs : List Lin) : List (List UInt8) := xs.map fun x => x.1.data.toList
theorem lnL_snoc (xs : List Lin) (x : Lin) : lnL (xs ++ [x]) = lnL xs ++ [x.1.data.toList] := by simp [lnL]
/-- How much of the string is left. -/
def leftB (Bs : Nat) (w : World) : Nat := match w.cell? ⟨Bs, 0, none⟩ with
  | some (.string t) => t.size
  | _ => 0
set_option maxRecDepth 100000 in
set_option maxHeartbeats 2000000 in
theorem lines_box (n : Nat) (hn : 1 ≤ n) (s : ByteArray) (Bs : Nat) (w : World) (hw : w.heap[Bs]? = some (.cells #[.string s] 9 (0, 0))) (hs : s.size ≤ 65536) :
    SeqBox Fence.wide n Tryz.prog 120 #[.pointer (some ⟨Bs, 0, none⟩)] (fun x : Lin => #[Value.string x.1]) Bs (fun xs => lnL xs = linesOf s.data.toList) (fun pre => lnL pre <+: linesOf s.data.toList) w := by
  intro l J Jx W hW hJ hY h0
  have hlt := (Array.getElem?_eq_some_iff.1 hw).1
  have hWB : W.heap[Bs]? = some (.cells #[.string s] 9 (0, 0)) := (hW.block Bs hlt).trans hw
  clear hw hW
  refine callsIn_of_wp Tryz.func120 rfl trivial ?_ rfl
  simp only [Tryz.ntmps120, List.size_toArray, List.length_cons, List.length_nil, Nat.reduceAdd, Nat.reduceSub, Array.replicate_succ, Array.replicate_zero, List.push_toArray, List.append_toArray, List.nil_append, List.cons_append]
  gi_wp2
  gi_loopw [3, 4] (fun _ _ wr => ∃ (pre : List Lin) (t : ByteArray), Boxed wr Bs 9 (.string t) ∧ Hid (linesOf s.data.toList = lnL pre ++ linesOf t.data.toList) ∧ t.size ≤ 65536 ∧ J pre wr) (fun _ _ wr => leftB Bs wr)
  case atStart => exact ⟨[], s, hWB, Lib.hid rfl, hs, h0⟩
  case round =>
    obtain ⟨pre, t, hbx, HC, hts, hJt⟩ := hrel
    have hc := hbx.cell
    have hf := hbx.frozen
    have hm : Hid (leftB Bs wr = t.size) := by show _ = _; unfold leftB; rw [hc]
    have htl : Hid (t.data.toList.length = t.size) := Array.length_toList
    by_cases ht : 0 < t.size
    · have ht1 : (0 : Int) < (t.size : Int) := by omega
      have hge := Lib.indexByte_ge t.data.toList 10
      by_cases hi : Lib.indexByte t.data.toList 10 = -1
      · have HI := Lib.hid hi
        have HX : Hid (lnL pre ++ linesOf t.data.toList = lnL (pre ++ [⟨t, hts⟩])) := by
          show _ = _
          rw [lines_last hi (fun e => by rw [e] at htl; have := htl.out; simp at this; omega), lnL_snoc]
        have hJ2 := hJ pre wr (wr.setCell ⟨Bs, 0, none⟩ (.string ⟨#[]⟩)) hJt (grownBy_setCell' wr Bs _)
        have hb2 := hbx.set (.string ⟨#[]⟩)
        obtain ⟨fn, tmps, assign, body, hy, hR⟩ := hY pre ⟨t, hts⟩ _ hJ2

        clear hge hi
        gi_wp2_with (refine ⟨trivial, ?_⟩; gi_at_call 121; refine (callsIn_wide.2 (ib_ t (-1) _ HI.out)).mono ?_; rintro e w' ⟨rfl, rfl⟩)
        refine hR.mono ?_
        rintro e W3 (⟨rfl, hJ3, hk3⟩ | ⟨rfl, hJx3⟩)
        · have hb3 : Boxed W3 Bs 9 (.string ⟨#[]⟩) := hk3.blk.trans hb2
          have hm3 : Hid (leftB Bs W3 = 0) := by show _ = _; unfold leftB; rw [hb3.cell]; rfl
          clear hc hf
          gi_wp2
          go_roundw
          case rel => exact ⟨pre ++ [⟨t, hts⟩], ⟨#[]⟩, hb3, Lib.hid (by rw [HC.out, HX.out]; simp [linesOf]), by decide, hJ3⟩
          case measure => rw [hm3.out, hm.out]; exact ht
        · gi_wp2
          refine bodyPost_ret (results_none rfl _ _ _) rfl ?_
          exact ⟨⟨_, rfl⟩, .inr ⟨pre ++ [⟨t, hts⟩], by rw [HC.out, HX.out]; exact List.prefix_rfl, hJx3⟩⟩
      · obtain ⟨o, ho⟩ : ∃ o : Nat, Lib.indexByte t.data.toList 10 = o := ⟨(Lib.indexByte t.data.toList 10).toNat, by omega⟩
        have HI := Lib.hid ho
        obtain ⟨hcut, hol⟩ := lines_cut ho
        have hol2 : o + 1 ≤ t.size := by have := htl.out; omega
        have o1 : (o : Int) + 1 ≤ (t.size : Int) := by omega
        have o2 : (o : Int) ≤ 65536 := by omega
        have HX := Lib.hid hcut
        clear hge hi ho hcut hol
        gi_wp2_with (refine ⟨trivial, ?_⟩; gi_at_call 121; refine (callsIn_wide.2 (ib_ t o _ HI.out)).mono ?_; rintro e w' ⟨rfl, rfl⟩)
        gi_region
        have hgr : wr.grownBy ((wr.setCell ⟨Bs, 0, none⟩ (.string (t.extract (o + 1) t.size))).drew) (some Bs) := by
          have h := grownBy_setCell' wr Bs (.string (t.extract (o + 1) t.size))
          exact ⟨rfl, rfl, rfl, h.size, h.block⟩
        have hJ2 := hJ pre wr _ hJt hgr
        have hx2 : (t.extract 0 (o + 1)).size ≤ 65536 := by
          have : (t.extract 0 (o + 1)).size ≤ t.size := by simp; omega
          omega
        have hb2 : Boxed ((wr.setCell ⟨Bs, 0, none⟩ (.string (t.extract (o + 1) t.size))).drew) Bs 9 (.string (t.extract (o + 1) t.size)) := hbx.set (.string (t.extract (o + 1) t.size))
        obtain ⟨fn, tmps, assign, body, hy, hR⟩ := hY pre ⟨t.extract 0 (o + 1), hx2⟩ _ hJ2
        clear hgr hc hf
        gi_wp2
        refine hR.mono ?_
        have ha : (t.extract 0 (o + 1)).data.toList = t.data.toList.take (o + 1) := by rw [Lib.extract_data, List.drop_zero, Nat.sub_zero]
        have hd : (t.extract (o + 1) t.size).data.toList = t.data.toList.drop (o + 1) := by rw [Lib.extract_data, List.take_of_length_le (by rw [List.length_drop, htl.out]; exact Nat.le_refl _)]
        have hz : (t.extract (o + 1) t.size).size = t.size - (o + 1) := by rw [Lib.size_eq, hd, List.length_drop, htl.out]
        have HA := Lib.hid ha
        have HD := Lib.hid hd
        have HZ := Lib.hid hz
        clear ha hd hz
        rintro e W3 (⟨rfl, hJ3, hk3⟩ | ⟨rfl, hJx3⟩)
        · have hb3 : Boxed W3 Bs 9 (.string (t.extract (o + 1) t.size)) := hk3.blk.trans hb2
          have hm3 : Hid (leftB Bs W3 = t.size - (o + 1)) := by show _ = _; unfold leftB; rw [hb3.cell]; exact HZ.out
          gi_wp2
          go_roundw
          case rel => exact ⟨pre ++ [⟨t.extract 0 (o + 1), hx2⟩], t.extract (o + 1) t.size, hb3, Lib.hid (by rw [HC.out, HX.out, lnL_snoc, HA.out, HD.out]; simp), by rw [HZ.out]; omega, hJ3⟩
          case measure => rw [hm3.out, hm.out]; omega
        · gi_wp2
          refine bodyPost_ret (results_none rfl _ _ _) rfl ?_
          exact ⟨⟨_, rfl⟩, .inr ⟨pre ++ [⟨t.extract 0 (o + 1), hx2⟩], by rw [HC.out, HX.out, lnL_snoc, HA.out]; exact ⟨linesOf (t.data.toList.drop (o + 1)), by simp⟩, hJx3⟩⟩
    · have ht1 : ¬ (0 : Int) < (t.size : Int) := by omega
      gi_wp2
      go_end0
      refine ⟨⟨_, rfl⟩, .inl ⟨pre, ?_, hJt⟩⟩
      have h1 := HC.out
      have h2 : t.data.toList = [] := List.eq_nil_of_length_eq_zero (by have := htl.out; omega)
      rw [h2] at h1
      rw [h1]
      simp [linesOf]
end Go.Proofs.YtohfofecbdfkgaaGreatDoor
