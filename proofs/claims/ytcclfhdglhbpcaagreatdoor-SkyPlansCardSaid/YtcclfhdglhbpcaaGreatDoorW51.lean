/-
  The walks of the specification's OwnBools and fresh.
-/
import Derived.Test.YtcclfhdglhbpcaaGreatDoorW50
import Derived.Test.YtcclfhdglhbpcaaGreatDoorW49
import Derived.Test.YtcclfhdglhbpcaaGreatDoorW33
namespace Go.Proofs.YtcclfhdglhbpcaaGreatDoor
open Go.RowKit Al

def bools (M : List Bool) : List Value := M.map Value.bool
theorem bools_at {M : List Bool} {k : Nat} (h : k < M.length) : (bools M)[k]? = some (.bool M[k]) := by unfold bools; simp [h]
theorem bools_set (M : List Bool) (k : Nat) (v : Bool) : (bools M).set k (.bool v) = bools (M.set k v) := by
  unfold bools
  rw [List.map_set]
theorem bools_len (M : List Bool) : (bools M).length = M.length := List.length_map _
theorem bools_one (M : List Bool) : ∀ u ∈ bools M, u.oneCell' = true := by
  intro u hu
  obtain ⟨k, _, rfl⟩ := List.mem_map.1 hu
  rfl
theorem infoBool : (Tryz.prog.info? 4).map (fun i => (i.zero, i.size, i.bytes)) = some (some (.bool false), 1, 1) := by kernel_rfl
/-- A fresh copy of marks. -/
def ObT (M : List Bool) (w : World) (e : Ending) (w' : World) : Prop := ∃ g cap, e = .returned (.slice (some ⟨g, 0, none⟩) M.length cap) ∧ w'.ownsRow w.heap.size 4 1 (.slice (some ⟨g, 0, none⟩) M.length cap) M.length (bools M) ∧ Below w.heap.size w w'
set_option maxRecDepth 100000 in
theorem OwnBools_ (M : List Bool) (lb mc base : Nat) (w : World) (hO : w.ownsRow base 4 1 (.slice (some ⟨lb, 0, none⟩) M.length mc) M.length (bools M)) (h0 : 0 < M.length) (h3 : M.length ≤ 384) :
    Calls Tryz.prog 81 #[.slice (some ⟨lb, 0, none⟩) M.length mc] w (ObT M w) := by
  obtain ⟨i0, hi, hz0, hz1, hz2⟩ := info_parts infoBool
  have HO := Lib.hid hO
  have hnews : ∀ j u, (bools M)[j]? = some u → w.cell? ((⟨lb, 0, none⟩ : Addr).add j) = some u := by
    intro j u hu
    have hj : j < M.length := by have := (List.getElem?_eq_some_iff.1 hu).1; rwa [bools_len] at this
    have ha : (⟨lb, 0, none⟩ : Addr).add j = ⟨lb, 0 + j, none⟩ := Addr.add_lit ..
    rw [ha, Nat.zero_add, HO.out.cellAt j (by omega)]
    exact hu
  have HN := Lib.hid hnews
  clear hO hnews
  go_enter Tryz.func81, Tryz.ntmps81
  go_wp2_with (at_builtin; go_must (refine wpList_append_lies _ rfl _ _ 121 rfl w.heap.size 4 i0 (.bool false) 1 1 Tryz.underlying121 hi hz0 hz1 hz2 rfl (by decide) (.slice none 0 0) 0 [] rfl (World.ownsRow_nil _ _ _ _) ⟨lb, 0, none⟩ M.length mc (bools M) rfl (by rw [bools_len, Nat.mul_one]) HN.out (bools_one M) h0 (by unfold maxLen; omega) (by omega) (Nat.le_refl _) _ rfl ?_); intro g cap w6 hown6 hg6 hat6 hlt6)
  rw [Nat.zero_add, List.nil_append] at hown6
  have HO6 := Lib.hid hown6
  have HB6 : Hid (Below w.heap.size w w6) := (Below.refl _ _).grown hg6 (Nat.le_refl _) (fun g h => by cases h)
  clear hown6 hg6 hat6 hlt6
  go_ret
  exact ⟨g, cap, rfl, HO6.out, HB6.out⟩
/-- What is left behind marks. -/
def mkL (lf : List Int) (M : List Bool) : List Int := (List.range lf.length).map fun k => if M.getD k false then 0 else lf.getD k 0
def markF (M : List Bool) (l : List Int) : List Bool := l.foldl (fun M c => M.set c.toNat true) M
theorem markF_snoc (M : List Bool) (l : List Int) (c : Int) : markF M (l ++ [c]) = (markF M l).set c.toNat true := by
  unfold markF
  rw [List.foldl_append]
  rfl
theorem markF_len (M : List Bool) (l : List Int) : (markF M l).length = M.length := by
  unfold markF
  induction l generalizing M with
  | nil => rfl
  | cons c t ih => rw [List.foldl_cons, ih, List.length_set]
theorem mkL_len (lf : List Int) (M : List Bool) : (mkL lf M).length = lf.length := by unfold mkL; simp
theorem mkL_get (lf : List Int) (M : List Bool) (k : Nat) : (mkL lf M).getD k 0 = if M.getD k false then 0 else lf.getD k 0 := by
  by_cases hk : k < lf.length
  · unfold mkL
    simp [List.getD_eq_getElem?_getD, hk]
  · rw [List.getD_eq_getElem?_getD, List.getElem?_eq_none (by rw [mkL_len]; omega), List.getD_eq_getElem?_getD (l := lf), List.getElem?_eq_none (by omega)]
    simp
theorem mkL_set (lf : List Int) {M : List Bool} {c : Nat} (hM : M.length = lf.length) : mkL lf (M.set c true) = (mkL lf M).set c 0 := by
  apply List.ext_getElem
  · rw [List.length_set, mkL_len, mkL_len]
  · intro i h1 h2
    rw [mkL_len] at h1
    have e1 : (mkL lf (M.set c true))[i]'(by rw [mkL_len]; exact h1) = (mkL lf (M.set c true)).getD i 0 := by simp [mkL_len, h1]
    rw [e1, mkL_get, List.getElem_set]
    by_cases hc : c = i
    · subst hc
      rw [if_pos rfl]
      simp [List.getD_eq_getElem?_getD, hM, h1]
    · rw [if_neg hc]
      have e2 : (mkL lf M)[i]'(by rw [mkL_len]; exact h1) = (mkL lf M).getD i 0 := by simp [mkL_len, h1]
      rw [e2, mkL_get]
      simp [List.getD_eq_getElem?_getD, List.getElem?_set_ne hc]
theorem mkL_in {lf : List Int} (h : ∀ x ∈ lf, 0 ≤ x ∧ x ≤ 1000) (M : List Bool) : ∀ x ∈ mkL lf M, 0 ≤ x ∧ x ≤ 1000 := by
  intro x hx
  unfold mkL at hx
  obtain ⟨k, hk, rfl⟩ := List.mem_map.1 hx
  have hk := List.mem_range.1 hk
  split
  · omega
  · rw [show lf.getD k 0 = lf[k] by simp [hk]]
    exact h _ (List.getElem_mem hk)
theorem take_mark {lf : List Int} {M : List Bool} (hM : M.length = lf.length) (l : List Int) : (takeF true (mkL lf M) l).2 = mkL lf (markF M l) := by
  induction l generalizing M with
  | nil => rfl
  | cons c t ih =>
    rw [takeF]
    show (takeF true ((mkL lf M).set c.toNat 0) t).2 = mkL lf (markF (M.set c.toNat true) t)
    rw [← mkL_set lf hM, ih (by rw [List.length_set]; exact hM)]
theorem prizeF_get (ws : List Int) : ∀ (l o : List Int) (k : Nat), (∀ c ∈ l, 0 ≤ c) → k < o.length → (prizeF ws o l).getD k 0 = if (k : Int) ∈ l then ws.getD k 0 else o.getD k 0
  | [], o, k, _, _ => by simp [prizeF]
  | c :: t, o, k, h, hk => by
    rw [prizeF, prizeF_get ws t _ k (fun d hd => h d (List.mem_cons_of_mem _ hd)) (by rw [List.length_set]; exact hk)]
    have h0 := h c (List.mem_cons_self ..)
    by_cases ht : (k : Int) ∈ t
    · rw [if_pos ht, if_pos (List.mem_cons_of_mem _ ht)]
    · rw [if_neg ht]
      by_cases hc : c.toNat = k
      · rw [if_pos (by rw [List.mem_cons]; left; omega)]
        subst hc
        rw [List.getD_eq_getElem?_getD, List.getElem?_set_self hk]
        rfl
      · rw [if_neg (by rw [List.mem_cons]; rintro (e | e); omega; exact ht e), List.getD_eq_getElem?_getD, List.getElem?_set_ne hc, ← List.getD_eq_getElem?_getD]
theorem lf0_get {ws sm : List Int} (h : ∀ c ∈ sm, 0 ≤ c) {k : Nat} (hk : k < ws.length) : (lf0 ws sm).getD k 0 = if (k : Int) ∈ sm then ws[k] else 0 := by
  unfold lf0
  rw [prizeF_get ws sm _ k h (by rw [List.length_replicate]; exact hk), show ws.getD k 0 = ws[k] by simp [hk], show (List.replicate ws.length (0 : Int)).getD k 0 = 0 by simp [List.getD_eq_getElem?_getD, hk]]
theorem findI_yes {l : List Int} {x : Int} (h : x ∈ l) : 0 ≤ findI l x := by unfold findI; rw [if_pos h]; omega
def FrW (lf : List Int) (M : List Bool) (cov : List Int) (lb mc base : Nat) (w : World) (s i : Value) (wr : World) : Prop := ∃ k : Nat, k ≤ cov.length ∧ i = .int .i64 (k : Int) ∧ s = .int .i64 (takeF true (mkL lf M) (cov.take k)).1 ∧
  Hid (wr.ownsRow base 4 1 (.slice (some ⟨lb, 0, none⟩) lf.length mc) lf.length (bools (markF M (cov.take k)))) ∧ Hid (w.grownBy wr (some lb))
/-- What fresh hands back. -/
def FrT (lf : List Int) (M : List Bool) (cov : List Int) (lb mc base : Nat) (w : World) (e : Ending) (w' : World) : Prop := e = .returned (.int .i64 (takeF true (mkL lf M) cov).1) ∧
  w'.ownsRow base 4 1 (.slice (some ⟨lb, 0, none⟩) lf.length mc) lf.length (bools (markF M cov)) ∧ w.grownBy w' (some lb)
set_option maxRecDepth 100000 in
set_option maxHeartbeats 8000000 in
theorem rfresh_ (ws sm cov lf : List Int) (hlf : lf = lf0 ws sm) (M : List Bool) (lb mc base : Nat) (A B C : Option Addr) (c d f : Nat) (w : World) (hO : w.ownsRow base 4 1 (.slice (some ⟨lb, 0, none⟩) lf.length mc) lf.length (bools M))
    (hw : Sl w w.heap.size 1 A ws.length c (ints ws)) (hwn : ∀ b o, 0 < ws.length → A = some ⟨b, o, none⟩ → b ≠ lb) (hs : Sl w w.heap.size 1 B sm.length d (ints sm)) (hsn : ∀ b o, 0 < sm.length → B = some ⟨b, o, none⟩ → b ≠ lb) (hc : Sl w w.heap.size 1 C cov.length f (ints cov)) (hcn : ∀ b o, 0 < cov.length → C = some ⟨b, o, none⟩ → b ≠ lb)
    (hws : ∀ x ∈ ws, 0 ≤ x ∧ x ≤ 1000) (hsm : ∀ x ∈ sm, 0 ≤ x) (hin : ∀ x ∈ cov, 0 ≤ x ∧ x < (ws.length : Int)) (hll : cov.length ≤ 384) :
    Calls Tryz.prog 79 #[.slice A ws.length c, .slice B sm.length d, .slice C cov.length f, .slice (some ⟨lb, 0, none⟩) lf.length mc] w (FrT lf M cov lb mc base w) := by
  have hlen : lf.length = ws.length := by rw [hlf]; unfold lf0; rw [prizeF_len, List.length_replicate]
  have hlfi : ∀ x ∈ lf, 0 ≤ x ∧ x ≤ 1000 := by rw [hlf]; exact prizeF_in ws _ sm (fun x hx => by rw [List.eq_of_mem_replicate hx]; omega) hws
  have hML : M.length = lf.length := by have := hO.1; rw [bools_len] at this; omega
  have HLG : Hid (∀ k (hk : k < ws.length), lf.getD k 0 = if (k : Int) ∈ sm then ws[k] else 0) := fun k hk => by rw [hlf]; exact lf0_get hsm hk
  have HO0 := Lib.hid hO
  have HW := Lib.hid hw
  have HWN := Lib.hid hwn
  have HS := Lib.hid hs
  have HSN := Lib.hid hsn
  have HC := Lib.hid hc
  have HCN := Lib.hid hcn
  have HIN := Lib.hid hin
  have HWS := Lib.hid hws
  have HMI := Lib.hid (mkL_in hlfi M)
  have HML := Lib.hid hML
  have HLEN := Lib.hid hlen
  clear hO hw hwn hs hsn hc hcn hin hws hsm hlfi hML hlf hlen
  go_enter Tryz.func79, Tryz.ntmps79
  go_wp2_with fail
  go_loopw [9, 10] (fun s i wr => FrW lf M cov lb mc base w s i wr) (fun _ i _ => cov.length - (intOf i).toNat)
  case atStart => exact ⟨0, Nat.zero_le _, rfl, rfl, HO0, Lib.hid (World.grownBy.refl w _)⟩
  case round =>
    obtain ⟨k, hk, rfl, rfl, HO, HG⟩ := hrel
    have hsz := HG.out.size
    by_cases hlt : k < cov.length
    · have hlen := HLEN.out
      have HCR := Lib.hid (HC.out.kg HG.out HCN.out)
      have HWR := Lib.hid (HW.out.kg HG.out HWN.out)
      have HSR := Lib.hid (HS.out.kg HG.out HSN.out)
      obtain ⟨tb, tof, rfl, htb, c0⟩ := HCR.out.int_at hlt hlt
      obtain ⟨cv, hcv⟩ : ∃ c, cov[k] = c := ⟨_, rfl⟩
      have hin := HIN.out cv (by rw [← hcv]; exact List.getElem_mem hlt)
      have HTK : Hid (cov.take (k + 1) = cov.take k ++ [cv]) := by show _ = _; rw [List.take_succ_eq_append_getElem hlt, hcv]
      rw [hcv] at c0
      obtain ⟨cn, rfl⟩ : ∃ n : Nat, cv = (n : Int) := ⟨cv.toNat, by omega⟩
      have hcn : cn < ws.length := by omega
      obtain ⟨hb1, hb2, hb3⟩ := takeF_in true (mkL lf M) (cov.take k) HMI.out
      have hSNa : (takeF true (mkL lf M) (cov.take (k + 1))).1 = (takeF true (mkL lf M) (cov.take k)).1 + (mkL lf (markF M (cov.take k))).getD cn 0 := by
        rw [HTK.out, takeF_snoc]
        show _ + (takeF true (mkL lf M) (cov.take k)).2.getD _ 0 = _
        rw [take_mark HML.out, Int.toNat_natCast]
      have hMSa : markF M (cov.take (k + 1)) = (markF M (cov.take k)).set cn true := by rw [HTK.out, markF_snoc, Int.toNat_natCast]
      have hol := markF_len M (cov.take k)
      rw [HML.out] at hol
      obtain ⟨o, ho⟩ : ∃ o, markF M (cov.take k) = o := ⟨_, rfl⟩
      rw [ho] at HO hSNa hMSa hol
      have hMG : (mkL lf o).getD cn 0 = if o[cn]'(by omega) then 0 else (if (cn : Int) ∈ sm then ws[cn] else 0) := by
        rw [mkL_get, HLG.out cn hcn, show o.getD cn false = o[cn]'(by omega) by simp [show cn < o.length by omega]]
      obtain ⟨S, hS⟩ : ∃ S, (takeF true (mkL lf M) (cov.take k)).1 = S := ⟨_, rfl⟩
      rw [hS] at hSNa hb2 hb3 ⊢
      have hs3 : S ≤ 384000 := by
        have : ((cov.take k).length : Int) ≤ 384 := by rw [List.length_take]; omega
        omega
      have r1 := HO.out.frozenAt cn
      have r0 := HO.out.cellAt cn (by omega)
      rw [bools_at (by omega)] at r0
      obtain ⟨ov, hov⟩ : ∃ x, o[cn]'(by omega) = x := ⟨_, rfl⟩
      rw [hov] at r0 hMG
      have HST : Hid ((bools o).set cn (.bool true) = bools (o.set cn true)) := bools_set o cn true
      obtain ⟨wbk, wof, hA, hwb, d0⟩ := HWR.out.int_at hcn hcn
      have hwv := HWS.out _ (List.getElem_mem hcn)
      obtain ⟨wv, hwe⟩ : ∃ x, ws[cn] = x := ⟨_, rfl⟩
      rw [hwe] at d0 hMG hwv
      have hw1 := hwv.1
      have hw2 := hwv.2
      have hlt' : (k : Int) < (cov.length : Int) := by omega
      have hcn' : (cn : Int) < (ws.length : Int) := by omega
      have hcl' : (cn : Int) < (lf.length : Int) := by omega
      have HSN2 := Lib.hid hSNa
      have HMS := Lib.hid hMSa
      have HFD := Lib.hid (fun W (hW : Below wr.heap.size wr W) => Find_ sm (cn : Int) B d W ((HSR.out.below hW).more hW.size))
      have hlb := (HO.out.lt lb rfl).2
      subst hA
      clear hcv ho hov hwe hwv hS hSNa hMSa hb1 hb3 hlen hol
      cases ov with
      | true =>
        have HMG : Hid ((mkL lf o).getD cn 0 = 0) := hMG
        have HSN := HSN2
        clear hMG d0
        go_wp2_with fail
        have h1 := HO.out.stored cn (.bool true)
        rw [HST.out] at h1
        go_roundw
        have HL1 := Lib.hid h1.1
        have HL2 := Lib.hid (HG.out.trans h1.2)
        case rel => (first | exact ⟨k + 1, by omega, by go_num, (by rw [HSN.out, HMG.out] <;> first | rfl | simp | go_num), by rw [HMS.out]; exact HL1, HL2⟩ | ((repeat apply Exists.intro); refine ⟨⟨k + 1, by omega, by go_num, (by rw [HSN.out, HMG.out] <;> first | rfl | simp | go_num), by rw [HMS.out]; exact HL1, HL2⟩, ?_⟩; (repeat refine ⟨rfl, ?_⟩); exact rfl))
        case measure => simp [intOf]; omega
      | false =>
        by_cases hm : (cn : Int) ∈ sm
        · rw [if_pos hm] at hMG
          have hfi := findI_yes hm
          obtain ⟨fi, hfe⟩ : ∃ x, findI sm (cn : Int) = x := ⟨_, rfl⟩
          rw [hfe] at HFD hfi
          have hd : decide (0 ≤ fi) = true := decide_eq_true hfi
          have HMG : Hid ((mkL lf o).getD cn 0 = wv) := hMG
          have HSN := HSN2
          clear hMG hfe hm
          go_wp2_with (go_at_call 20; refine (HFD.out _ (Below.refl _ _)).mono ?_; rintro e w' ⟨rfl, rfl⟩)
          have h1 := HO.out.stored cn (.bool true)
          rw [HST.out] at h1
          go_roundw
          have HL1 := Lib.hid h1.1
          have HL2 := Lib.hid (HG.out.trans h1.2)
          case rel => (first | exact ⟨k + 1, by omega, by go_num, (by rw [HSN.out, HMG.out] <;> first | rfl | simp | go_num), by rw [HMS.out]; exact HL1, HL2⟩ | ((repeat apply Exists.intro); refine ⟨⟨k + 1, by omega, by go_num, (by rw [HSN.out, HMG.out] <;> first | rfl | simp | go_num), by rw [HMS.out]; exact HL1, HL2⟩, ?_⟩; (repeat refine ⟨rfl, ?_⟩); exact rfl))
          case measure => simp [intOf]; omega
        · rw [if_neg hm] at hMG
          have hfi := findI_no.2 hm
          obtain ⟨fi, hfe⟩ : ∃ x, findI sm (cn : Int) = x := ⟨_, rfl⟩
          rw [hfe] at HFD hfi
          have hd : decide (0 ≤ fi) = false := decide_eq_false (by omega)
          have HMG : Hid ((mkL lf o).getD cn 0 = 0) := hMG
          have HSN := HSN2
          clear hMG hfe hm d0
          go_wp2_with (go_at_call 20; refine (HFD.out _ (Below.refl _ _)).mono ?_; rintro e w' ⟨rfl, rfl⟩)
          have h1 := HO.out.stored cn (.bool true)
          rw [HST.out] at h1
          go_roundw
          have HL1 := Lib.hid h1.1
          have HL2 := Lib.hid (HG.out.trans h1.2)
          case rel => (first | exact ⟨k + 1, by omega, by go_num, (by rw [HSN.out, HMG.out] <;> first | rfl | simp | go_num), by rw [HMS.out]; exact HL1, HL2⟩ | ((repeat apply Exists.intro); refine ⟨⟨k + 1, by omega, by go_num, (by rw [HSN.out, HMG.out] <;> first | rfl | simp | go_num), by rw [HMS.out]; exact HL1, HL2⟩, ?_⟩; (repeat refine ⟨rfl, ?_⟩); exact rfl))
          case measure => simp [intOf]; omega
    · obtain rfl : k = cov.length := by omega
      have HE1 : Hid (cov.take cov.length = cov) := List.take_length
      rw [HE1.out] at HO ⊢
      go_wp2_with fail
      go_ret
      exact ⟨rfl, HO.out, HG.out⟩
end Go.Proofs.YtcclfhdglhbpcaaGreatDoor

/-
  The walks of the specification's gain and Gain, for all inputs.
-/
namespace Go.Proofs.YtcclfhdglhbpcaaGreatDoor
open Go.RowKit Al

theorem sl_far {w : World} {B sz n c lb : Nat} {A : Option Addr} {xs : List Value} (h : Sl w B sz A n c xs) (hb : B ≤ lb) : ∀ b o, 0 < n → A = some ⟨b, o, none⟩ → b ≠ lb := by
  intro b o h0 e
  obtain ⟨b', o', e', hb', -⟩ := h.at_ h0
  rw [e] at e'
  cases e'
  omega
theorem bools_rep (n : Nat) : (madeCells (Value.bool false).cells (n * 1)).toList = bools (List.replicate n false) := by
  show (madeCells #[Value.bool false] (n * 1)).toList = _
  rw [Nat.mul_one, toList_madeCells_one]
  unfold bools
  rw [List.map_replicate]
/-- What the looks of a plan mark. -/
def marksP (n : Int) (N : Nat) (L : List Scp) (p : List V3) : List Bool := p.foldl (fun M x => markF M (coversX n N (scpAt L x.2.1) x.1.toNat x.2.2)) (List.replicate N false)
theorem marksP_snoc (n : Int) (N : Nat) (L : List Scp) (p : List V3) (x : V3) : marksP n N L (p ++ [x]) = markF (marksP n N L p) (coversX n N (scpAt L x.2.1) x.1.toNat x.2.2) := by
  unfold marksP
  rw [List.foldl_append]
  rfl
theorem marksP_len (n : Int) (N : Nat) (L : List Scp) (p : List V3) : (marksP n N L p).length = N := by
  unfold marksP
  have key : ∀ (p : List V3) (M : List Bool), (p.foldl (fun M x => markF M (coversX n N (scpAt L x.2.1) x.1.toNat x.2.2)) M).length = M.length := by
    intro p
    induction p with
    | nil => intro M; rfl
    | cons x t ih => intro M; rw [List.foldl_cons, ih, markF_len]
  rw [key, List.length_replicate]
theorem mkL_none (lf : List Int) (k : Nat) : mkL lf (List.replicate k false) = lf := by
  apply List.ext_getElem
  · rw [mkL_len]
  · intro i h1 h2
    have e1 : (mkL lf (List.replicate k false))[i] = (mkL lf (List.replicate k false)).getD i 0 := by simp [mkL_len, h2]
    rw [e1, mkL_get]
    have : (List.replicate k false).getD i false = false := by
      rw [List.getD_eq_getElem?_getD, List.getElem?_replicate]
      split <;> rfl
    rw [this]
    simp [h2]
theorem ga_marks {n : Int} {N : Nat} {L : List Scp} {lf : List Int} (p : List V3) : ∀ (M : List Bool) (g : Int), M.length = lf.length → (p.foldl (gaS n N L) (mkL lf M, g)).1 = mkL lf (p.foldl (fun M x => markF M (coversX n N (scpAt L x.2.1) x.1.toNat x.2.2)) M) := by
  induction p with
  | nil => intro M g _; rfl
  | cons x t ih =>
    intro M g hM
    rw [List.foldl_cons, List.foldl_cons]
    have e : gaS n N L (mkL lf M, g) x = (mkL lf (markF M (coversX n N (scpAt L x.2.1) x.1.toNat x.2.2)), g + (takeF true (mkL lf M) (coversX n N (scpAt L x.2.1) x.1.toNat x.2.2)).1) := by
      unfold gaS
      simp only
      rw [take_mark hM]
    rw [e, ih _ _ (by rw [markF_len]; exact hM)]
theorem gaF_marks {n : Int} {N : Nat} {L : List Scp} {lf : List Int} (hl : lf.length = N) (p : List V3) : (gaF n N L lf p).1 = mkL lf (marksP n N L p) := by
  have h := ga_marks (n := n) (N := N) (L := L) (lf := lf) p (List.replicate N false) 0 (by rw [List.length_replicate, hl])
  rw [mkL_none] at h
  exact h
def RgW (F : Nat → List Int × Int) (M : Nat → List Bool) (N lb m : Nat) (w : World) (s i : Value) (wr : World) : Prop := ∃ k : Nat, k ≤ m ∧ i = .int .i64 (k : Int) ∧ s = .int .i64 (F k).2 ∧
  Hid (wr.ownsRow w.heap.size 4 1 (.slice (some ⟨lb, 0, none⟩) N N) N (bools (M k))) ∧ Hid (Below w.heap.size w wr)
set_option maxRecDepth 100000 in
set_option maxHeartbeats 8000000 in
theorem rgain_ (L : List Scp) (hok : ScsOk L (m0L L)) (LA : Option Addr) (lc : Nat) (n : Int) (h1 : 1 ≤ n) (h8 : n ≤ 8) (N : Nat) (hN : (N : Int) = 6 * (n * n)) (ws sm : List Int) (A B : Option Addr) (c d : Nat) (p : List V3) (PA : Option Addr) (pc : Nat) (w : World)
    (hL : Sl w w.heap.size 6 LA L.length lc (scsC L)) (hz : ∀ x ∈ L, Sl w w.heap.size 3 x.ZA x.zs.length x.zc (zsC x.zs)) (hw : Sl w w.heap.size 1 A ws.length c (ints ws)) (hs : Sl w w.heap.size 1 B sm.length d (ints sm)) (hp : Sl w w.heap.size 3 PA p.length pc (zsC p)) (hwt : weighedB n ws sm = true) (hpb : planB L n N p = true) :
    Calls Tryz.prog 76 #[.slice LA L.length lc, .int .i64 n, .slice A ws.length c, .slice B sm.length d, .slice PA p.length pc] w fun e w' => e = .returned (.int .i64 (gaF n N L (lf0 ws sm) p).2) ∧ Below w.heap.size w w' := by
  obtain ⟨q1, q2, q3⟩ := weighedB_yes hwt
  obtain ⟨hwN, hgo⟩ := lf0_ok h1 h8 hN hwt
  obtain ⟨k1, k2, k3⟩ := six_in h1 h8
  obtain ⟨i0, hi, hz0, hz1, hz2⟩ := info_parts infoBool
  have hN384 : N ≤ 384 := by omega
  have hN0 : 0 < N := by omega
  have HC : Hid (∀ W, Calls Tryz.prog 54 #[.int .i64 n] W fun e w' => e = .returned (.int .i64 (N : Int)) ∧ W = w') := fun W => by rw [hN]; exact rcells_ n h1 h8 W
  have hpl : p.length ≤ maxLen := Nat.le_trans hp.cap hp.max
  unfold maxLen at hpl
  have HPB := Lib.hid hpb
  have HGO := Lib.hid hgo
  have HL := Lib.hid (fun W (hW : Below w.heap.size w W) => (hL.below hW).more hW.size)
  have HZ := Lib.hid (fun W (hW : Below w.heap.size w W) => fun y hy => ((hz y hy).below hW).more hW.size)
  have HW := Lib.hid (fun W (hW : Below w.heap.size w W) => (hw.below hW).more hW.size)
  have HS := Lib.hid (fun W (hW : Below w.heap.size w W) => (hs.below hW).more hW.size)
  have HP := Lib.hid hp
  have HWF := Lib.hid (sl_far hw (Nat.le_refl _))
  have HSF := Lib.hid (sl_far hs (Nat.le_refl _))
  have HOKS := Lib.hid hok
  have HLN : Hid ((lf0 ws sm).length = N) := hgo.ln
  have HNN := Lib.hid hN
  have HWB := Lib.hid q2
  have HSB : Hid (∀ x ∈ sm, 0 ≤ x) := fun x hx => (q3 x hx).1
  have HWN := Lib.hid hwN
  have hNi : (N : Int) ≤ 384 := by omega
  have hN0i : (0 : Int) ≤ (N : Int) := by omega
  clear hL hz hw hs hp hwt hpb hok q1 q2 q3 hwN hgo hN k1 k2 k3
  go_enter Tryz.func76, Tryz.ntmps76
  go_wp2_with (first | (at_make; refine wpList_make_full _ rfl _ _ 121 rfl w.heap.size 4 i0 (.bool false) 1 Tryz.underlying121 hi hz0 hz1 _ _ _ _ N rfl rfl (by omega) (by omega) (by rw [hz2]; omega) (by unfold maxLen; omega) (Nat.le_refl _) ?_; intro w1 hown1 hg1) | (go_at_call 54; refine (HC.out _).mono ?_; rintro e w' ⟨rfl, rfl⟩))
  rw [bools_rep] at hown1
  have HO1 := Lib.hid hown1
  have HB1 : Hid (Below w.heap.size w w1) := (Below.refl _ _).grown hg1 (Nat.le_refl _) (fun g h => by cases h)
  clear hown1 hg1
  obtain ⟨lb, hlb⟩ : ∃ b, w.heap.size = b := ⟨_, rfl⟩
  have hlbw : w.heap.size ≤ lb := by omega
  have HLB := Lib.hid hlb
  obtain ⟨F, hF⟩ : ∃ F : Nat → List Int × Int, (fun k => gaF n N L (lf0 ws sm) (p.take k)) = F := ⟨_, rfl⟩
  have HF : Hid (∀ k, F k = gaF n N L (lf0 ws sm) (p.take k)) := fun k => by rw [← hF]
  obtain ⟨M, hM⟩ : ∃ M : Nat → List Bool, (fun k => marksP n N L (p.take k)) = M := ⟨_, rfl⟩
  have HMM : Hid (∀ k, M k = marksP n N L (p.take k)) := fun k => by rw [← hM]
  have HFE : Hid (gaF n N L (lf0 ws sm) p = F p.length) := by show _ = _; rw [HF.out, List.take_length]
  have HF0 : Hid ((0 : Int) = (F 0).2) := by show _ = _; rw [HF.out]; rfl
  have HO2 : Hid (w1.ownsRow w.heap.size 4 1 (.slice (some ⟨lb, 0, none⟩) N N) N (bools (M 0))) := by
    show World.ownsRow _ _ _ _ _ _ _
    rw [HMM.out, ← hlb]
    exact HO1.out
  clear hF hM HO1 hlb
  go_wp2_with fail
  rw [HLB.out]
  go_loopw [12, 13] (fun s i wr => RgW F M N lb p.length w s i wr) (fun _ i _ => p.length - (intOf i).toNat)
  case atStart => exact ⟨0, Nat.zero_le _, rfl, by rw [← HF0.out], HO2, HB1⟩
  case round =>
    obtain ⟨k, hk, rfl, rfl, HO, HB⟩ := hrel
    have hsz := HB.out.size
    by_cases hlt : k < p.length
    · obtain ⟨xb, xof, rfl, hxb, c0, c1, c2⟩ := (HP.out.below HB.out).z_at hlt
      have hlk := planB_at HPB.out hlt
      have hFS : F (k + 1) = gaS n N L (F k) p[k] := by rw [HF.out, HF.out, List.take_succ_eq_append_getElem hlt, gaF_snoc]
      have hMS : M (k + 1) = markF (M k) (coversX n N (scpAt L p[k].2.1) p[k].1.toNat p[k].2.2) := by rw [HMM.out, HMM.out, List.take_succ_eq_append_getElem hlt, marksP_snoc]
      have hgo : GaOk N (F k) := by rw [HF.out]; exact gaF_ok HGO.out _
      have hfm : (F k).1 = mkL (lf0 ws sm) (M k) := by rw [HF.out, HMM.out]; exact gaF_marks HLN.out _
      obtain ⟨⟨t, s, cl⟩, hx⟩ : ∃ x, p[k] = x := ⟨_, rfl⟩
      rw [hx] at c0 c1 c2 hlk hFS hMS
      simp only at c0 c1 c2 hMS
      unfold lookB at hlk
      rw [Bool.and_eq_true] at hlk
      obtain ⟨ht, hc⟩ := hlk
      have hci := seesX_in (List.contains_iff_mem.1 hc)
      obtain ⟨si, ti, hsi, hte, hse, hti, hxe⟩ := turn_at HOKS.out ht
      simp only at hte hse hxe hci
      have HCV := Lib.hid (fun W (hW : Below w.heap.size w W) => rcovers_ L LA lc n cl si ti W (HL.out W hW) (HZ.out W hW) h1 h8 hsi hti N HNN.out hci.1 hci.2)
      rw [hxe, ← hte, ← hse, show ti = t.toNat by omega] at HCV
      unfold gaS at hFS
      simp only at hFS
      obtain ⟨cs, hcs⟩ : ∃ l, coversX n N (scpAt L s) t.toNat cl = l := ⟨_, rfl⟩
      have HCI : Hid (∀ y ∈ cs, 0 ≤ y ∧ y < (N : Int)) := fun y hy => coversX_in (by rw [hcs]; exact hy)
      have hcll : cs.length ≤ 384 := by have := coversX_len n N (scpAt L s) t.toNat cl; rw [hcs] at this; omega
      rw [hcs] at hFS hMS HCV
      rw [hfm] at hFS
      obtain ⟨k1, k2, k3⟩ := takeF_in true (mkL (lf0 ws sm) (M k)) cs (hfm ▸ hgo.lf)
      have hsum := takeF_sum (mkL (lf0 ws sm) (M k)) cs
      have hsn := (sum_nn k1).1
      have hg0 := hgo.g0
      have hgs := hgo.sm
      rw [hfm] at hgs
      obtain ⟨K, hK⟩ : ∃ K, (takeF true (mkL (lf0 ws sm) (M k)) cs).1 = K := ⟨_, rfl⟩
      have HK := Lib.hid hK
      rw [hK] at hFS k2 k3 hsum
      have HFS := Lib.hid hFS
      have HMS := Lib.hid hMS
      have hlt' : (k : Int) < (p.length : Int) := by omega
      have hxb2 : xb < wr.heap.size := by omega
      have hv1 : (F k).2 + K ≤ 384000 := by omega
      have hlr := (HO.out.lt lb rfl).2
      clear hx ht hc hci hsi hte hse hti hxe hcs hK hFS hMS hsum hsn hgs k1 hgo hfm
      go_wp2_with fail
      refine (HCV.out _ HB.out).mono ?_
      rintro e w6 ⟨D, dc, rfl, hO6, hb6⟩
      have HOM : Hid (w6.ownsRow w.heap.size 4 1 (.slice (some ⟨lb, 0, none⟩) (lf0 ws sm).length N) (lf0 ws sm).length (bools (M k))) := by
        show World.ownsRow _ _ _ _ _ _ _
        rw [HLN.out]
        exact own_below HO.out (Nat.le_refl _) hb6
      have HB6 := Lib.hid (HB.out.trans (hb6.mono hsz))
      have HFR := Lib.hid (rfresh_ ws sm cs (lf0 ws sm) rfl (M k) lb N w.heap.size A B D c d dc w6 HOM.out (HW.out _ HB6.out) (fun b o h0 e => by have := HWF.out b o h0 e; obtain ⟨b', o', e', hb', -⟩ := (HW.out w (Below.refl _ _)).at_ h0; rw [e] at e'; cases e'; omega) (HS.out _ HB6.out) (fun b o h0 e => by have := HSF.out b o h0 e; obtain ⟨b', o', e', hb', -⟩ := (HS.out w (Below.refl _ _)).at_ h0; rw [e] at e'; cases e'; omega)
        (Sl.of_own hO6) (fun b o h0 e => by have := (own_lt hO6 (g := b) (by rw [e]; first | rfl | (have := own_some hO6 h0; obtain ⟨g, hg⟩ := this; rw [hg] at e; cases e; rfl))).1; omega) HWB.out HSB.out (fun x hx => by have := HCI.out x hx; rw [HWN.out]; exact this) hcll)
      rw [HLN.out] at HFR
      clear hO6 hb6 c0 c1 c2
      go_wp2_with fail
      refine HFR.out.mono ?_
      rintro e w7 ⟨rfl, hO7, hg7⟩
      rw [HLN.out, ← HMS.out] at hO7
      have HO7 := Lib.hid hO7
      have HB7 : Hid (Below w.heap.size w w7) := HB6.out.grown hg7 HB6.out.size (fun g h => by cases h; exact hlbw)
      rw [HK.out]
      clear hO7 hg7
      go_wp2_with fail
      go_roundw
      case rel => exact ⟨k + 1, by omega, by go_num, by rw [HFS.out], HO7, HB7⟩
      case measure => simp [intOf]; omega
    · obtain rfl : k = p.length := by omega
      go_wp2_with fail
      go_ret
      exact ⟨by rw [HFE.out]; rfl, HB.out⟩
set_option maxRecDepth 100000 in
set_option maxHeartbeats 4000000 in
theorem rGain_ (L : List Scp) (LA : Option Addr) (lc : Nat) (n : Int) (N : Nat) (hN : (N : Int) = 6 * (n * n)) (ws sm : List Int) (A B : Option Addr) (c d : Nat) (p : List V3) (PA : Option Addr) (pc : Nat) (w : World)
    (hL : Sl w w.heap.size 6 LA L.length lc (scsC L)) (hz : ∀ x ∈ L, Sl w w.heap.size 3 x.ZA x.zs.length x.zc (zsC x.zs)) (hs' : ∀ x ∈ L, x.nm.size ≤ maxLen) (hw : Sl w w.heap.size 1 A ws.length c (ints ws)) (hs : Sl w w.heap.size 1 B sm.length d (ints sm)) (hp : Sl w w.heap.size 3 PA p.length pc (zsC p)) :
    Calls Tryz.prog 31 #[.slice LA L.length lc, .int .i64 n, .slice A ws.length c, .slice B sm.length d, .slice PA p.length pc] w fun e w' => e = .returned (.tuple #[.int .i64 (gainV L n N ws sm p), .int .i64 (gainE L n N ws sm p)]) ∧ Below w.heap.size w w' := by
  have HGA := Lib.hid (rgaining_ L LA lc n N hN ws sm A B c d w hL hz hs' hw hs)
  by_cases hg : gE L n ws sm = 0
  · obtain ⟨hgw, hwt⟩ := gE_ok hg
    obtain ⟨hb, h1, h8⟩ := gW_ok hgw
    have hok := scsB_ok hb hs'
    rw [hg] at HGA
    have HPL := Lib.hid (fun W (hW : Below w.heap.size w W) => rplan_ L LA lc n p PA pc W ((hL.below hW).more hW.size) (fun y hy => ((hz y hy).below hW).more hW.size) hok h1 h8 N hN ((hp.below hW).more hW.size))
    have HGN := Lib.hid (fun (hpb : planB L n N p = true) W (hW : Below w.heap.size w W) => rgain_ L hok LA lc n h1 h8 N hN ws sm A B c d p PA pc W ((hL.below hW).more hW.size) (fun y hy => ((hz y hy).below hW).more hW.size) ((hw.below hW).more hW.size) ((hs.below hW).more hW.size) ((hp.below hW).more hW.size) hwt hpb)
    cases hpb : planB L n N p with
    | true =>
      have e1 : gainE L n N ws sm p = 0 := by unfold gainE; rw [hg, hpb]; rfl
      have e2 : gainV L n N ws sm p = (gaF n N L (lf0 ws sm) p).2 := by unfold gainV; rw [if_pos e1]
      rw [e1, e2]
      rw [hpb] at HPL
      have HGN := Lib.hid (HGN.out hpb)
      obtain ⟨g, hgv⟩ : ∃ g, (gaF n N L (lf0 ws sm) p).2 = g := ⟨_, rfl⟩
      rw [hgv] at HGN ⊢
      clear hL hz hs' hw hs hp hg hgw hwt hb hok hpb e1 e2 hgv hN
      go_enter Tryz.func31, Tryz.ntmps31
      go_wp2_with fail
      refine HGA.out.mono ?_
      rintro e w1 ⟨rfl, hb⟩
      have HB1 := Lib.hid hb
      clear hb
      go_wp2_with fail
      refine (HPL.out _ HB1.out).mono ?_
      rintro e w2 ⟨rfl, hb⟩
      have HB2 := Lib.hid (Below.tr HB1.out hb)
      clear hb
      go_wp2_with fail
      refine (HGN.out _ HB2.out).mono ?_
      rintro e w3 ⟨rfl, hb⟩
      have HB3 := Lib.hid (Below.tr HB2.out hb)
      clear hb
      go_wp2_with fail
      go_ret2
      exact ⟨rfl, HB3.out⟩
    | false =>
      have e1 : gainE L n N ws sm p = 94 := by unfold gainE; rw [hg, hpb]; rfl
      have e2 : gainV L n N ws sm p = 0 := by unfold gainV; rw [if_neg (by rw [e1]; decide)]
      rw [e1, e2]
      rw [hpb] at HPL
      clear hL hz hs' hw hs hp hg hgw hwt hb hok hpb e1 e2 HGN hN
      go_enter Tryz.func31, Tryz.ntmps31
      go_wp2_with fail
      refine HGA.out.mono ?_
      rintro e w1 ⟨rfl, hb⟩
      have HB1 := Lib.hid hb
      clear hb
      go_wp2_with fail
      refine (HPL.out _ HB1.out).mono ?_
      rintro e w2 ⟨rfl, hb⟩
      have HB2 := Lib.hid (Below.tr HB1.out hb)
      clear hb
      go_wp2_with fail
      go_ret2
      exact ⟨rfl, HB2.out⟩
  · have e1 : gainE L n N ws sm p = gE L n ws sm := by unfold gainE; rw [if_neg (by simpa using hg)]
    have e2 : gainV L n N ws sm p = 0 := by unfold gainV; rw [if_neg (by rw [e1]; exact hg)]
    rw [e1, e2]
    obtain ⟨v, hv⟩ : ∃ v, gE L n ws sm = v := ⟨_, rfl⟩
    rw [hv] at HGA hg ⊢
    have hnz : (v != 0) = true := by simpa using hg
    clear hL hz hs' hw hs hp hv e1 e2 hN
    go_enter Tryz.func31, Tryz.ntmps31
    go_wp2_with fail
    refine HGA.out.mono ?_
    rintro e w1 ⟨rfl, hb⟩
    have HB1 := Lib.hid hb
    clear hb
    go_wp2_with fail
    go_ret2
    exact ⟨rfl, HB1.out⟩
end Go.Proofs.YtcclfhdglhbpcaaGreatDoor
