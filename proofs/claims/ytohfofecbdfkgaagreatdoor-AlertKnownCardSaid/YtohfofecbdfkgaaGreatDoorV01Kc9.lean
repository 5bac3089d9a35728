/-
  Plain: the numbers of the chapter's other examples.
-/
import Derived.Test.YtohfofecbdfkgaaGreatDoorU15
import Derived.Test.YtohfofecbdfkgaaGreatDoorU20
import Derived.Test.YtohfofecbdfkgaaGreatDoorU21
import Derived.Test.YtohfofecbdfkgaaGreatDoorU24
namespace Go.Proofs.YtohfofecbdfkgaaGreatDoor
open Go.RowKit Al

theorem key3_ok : keyB 5 7 5 = true := by decide
theorem key4_ok : keyB 3 5 3 = true := by decide
theorem key5_no : keyB 3 3 5 = false := by decide
theorem key6_no : keyB 4 7 5 = false := by decide
theorem sec3 : secretI (lcmI 5 7) 5 = 5 := by decide
theorem sec4 : secretI (lcmI 3 5) 3 = 3 := by decide
/-- What follows a withdrawal, as it must not. -/
def thdA : Alr := ⟨⟨#[115, 49]⟩, 3, 6, 1, 20, 1, [1], false, 2145405888⟩
theorem thd_ok : okA thdA = true := by decide
theorem it2 : Lib.itoa 2 = [50] := by simp [Lib.itoa, Lib.decDigits]
theorem it6 : Lib.itoa 6 = [54] := by simp [Lib.itoa, Lib.decDigits]
theorem itB : Lib.itoa 2145405888 = [50, 49, 52, 53, 52, 48, 53, 56, 56, 56] := by simp [Lib.itoa, Lib.decDigits]
def fswL : List UInt8 := [97, 108, 101, 114, 116, 32, 115, 49, 32, 50, 10, 116, 105, 109, 101, 32, 54, 10, 99, 104, 97, 110, 99, 101, 32, 49, 32, 50, 48, 10, 103, 114, 105, 100, 32, 49, 10, 119, 105, 116, 104, 100, 114, 97, 119, 110, 10, 98, 101, 102, 111, 114, 101, 32, 50, 49, 52, 53, 52, 48, 53, 56, 56, 56, 10, 101, 110, 100, 10]
theorem fsw_text : textL fstW = fswL := by
  simp [textL, lines, headL, timeL, chanceL, gridL, whereL, beforeL, endL, rowL, fstW, it1, it2, it6, it20, itB, fswL]
set_option maxRecDepth 20000 in
theorem fsw_dig : digA fstW = 2037777717 := by
  unfold digA
  rw [fsw_text]
  decide
def thdL : List UInt8 := [97, 108, 101, 114, 116, 32, 115, 49, 32, 51, 10, 116, 105, 109, 101, 32, 54, 10, 99, 104, 97, 110, 99, 101, 32, 49, 32, 50, 48, 10, 103, 114, 105, 100, 32, 49, 10, 99, 101, 108, 108, 115, 32, 49, 10, 98, 101, 102, 111, 114, 101, 32, 50, 49, 52, 53, 52, 48, 53, 56, 56, 56, 10, 101, 110, 100, 10]
theorem thd_text : textL thdA = thdL := by
  simp [textL, lines, headL, timeL, chanceL, gridL, whereL, beforeL, endL, rowL, thdA, it1, it3, it6, it20, itB, thdL]
set_option maxRecDepth 20000 in
theorem thd_dig : digA thdA = 777477576 := by
  unfold digA
  rw [thd_text]
  decide
def sgn2 : List (Int × Int) := [(0, 21), (1, 33)]
def sgw3 : List (Int × Int) := [(0, 6), (1, 12), (2, 3)]
def sgk2 : List (Int × Int) := [(0, 24), (1, 1)]
def sgf1 : List (Int × Int) := [(0, 21)]
theorem sgn2_is : sgN ringK ringS (digA fstA) 2 = sgn2 := by
  rw [fst_dig]
  decide
theorem sgf1_is : sgN ringK ringS (digA fstA) 1 = sgf1 := by
  rw [fst_dig]
  decide
theorem sgw3_is : sgN ringK ringS (digA fstW) 3 = sgw3 := by
  rw [fsw_dig]
  decide
theorem sgk2_is : sgN ringK ringS (digA thdA) 2 = sgk2 := by
  rw [thd_dig]
  decide
def kN : Ntc := ⟨fstA, sgn2⟩
def kM : Ntc := ⟨fstW, sgw3⟩
def kK : Ntc := ⟨thdA, sgk2⟩
def kF : Ntc := ⟨fstA, sgf1⟩
theorem kN_note : noticeE ringK 2 kN = 0 := by
  refine noticeE_ok (n := kN) fst_ok ?_ (by decide)
  show sigsOk ringK (digA fstA) (-1) sgn2 = true
  rw [fst_dig]
  decide
theorem kM_note : noticeE ringK 2 kM = 0 := by
  refine noticeE_ok (n := kM) fstW_ok ?_ (by decide)
  show sigsOk ringK (digA fstW) (-1) sgw3 = true
  rw [fsw_dig]
  decide
theorem kK_note : noticeE ringK 2 kK = 0 := by
  refine noticeE_ok (n := kK) thd_ok ?_ (by decide)
  show sigsOk ringK (digA thdA) (-1) sgk2 = true
  rw [thd_dig]
  decide
theorem kF_note : noticeE ringK 2 kF = 103 := by
  refine noticeE_few (n := kF) fst_ok ?_ (by decide)
  show sigsOk ringK (digA fstA) (-1) sgf1 = true
  rw [fst_dig]
  decide
theorem kp1 : postE ringK 2 [] kF = 103 := by rw [postE_f (by rw [kF_note]; decide), kF_note]
theorem kp1n : postN ringK 2 [] kF = [] := by unfold postN; rw [kp1]; rfl
theorem kp2 : postE ringK 2 [] kM = 105 := by
  rw [postE_t kM_note]
  decide
theorem kp2n : postN ringK 2 [] kM = [] := by unfold postN; rw [kp2]; rfl
theorem kp3 : postE ringK 2 [] kN = 0 := by
  rw [postE_t kN_note]
  decide
theorem kp3n : postN ringK 2 [] kN = [kN] := by unfold postN; rw [kp3]; rfl
set_option maxRecDepth 20000 in
theorem kp4 : postE ringK 2 [kN] kM = 0 := by
  rw [postE_t kM_note]
  simp [chainE, chainX, lastOf, kN, kM, fstA, fstW]
  exact fst_dig.symm
theorem kp4n : postN ringK 2 [kN] kM = [kN, kM] := by unfold postN; rw [kp4]; rfl
theorem kp5 : postE ringK 2 [kN, kM] kK = 107 := by
  rw [postE_t kK_note]
  simp [chainE, chainX, lastOf, kN, kM, kK, fstA, fstW, thdA]
theorem kp5n : postN ringK 2 [kN, kM] kK = [kN, kM] := by unfold postN; rw [kp5]; rfl
theorem kforce : forceR [kN, kM] [115, 49] = (Al.zero, 107) := by
  simp [forceR, lastOf, kN, kM, fstA, fstW]
theorem khist : hist [kN, kM] [115, 49] = [fstA, fstW] := by
  simp [hist, kN, kM, fstA, fstW]
theorem kchn : Chn [fstA, fstW] := (Chn.one fst_ok rfl).snoc (x := fstA) (a := fstW) rfl fstW_ok rfl rfl fst_dig.symm (by decide)
theorem ksettle (x y : It) (hx : x.n = kK) (hy : y.n = kM) : settleR ringK 2 [x, y] = ([⟨⟨#[115, 49]⟩, 2, 0, 0⟩], 0) := by
  have hm : manyE ringK 2 ([x, y] : List It).length = 0 := by show manyE ringK 2 2 = 0; decide
  have hv : validN ringK 2 [x, y] = [x, y] := by
    unfold validN
    simp [hx, hy, kK_note, kM_note]
  have ex : x.n.a.ev = ⟨#[115, 49]⟩ := by rw [hx]; rfl
  have ey : y.n.a.ev = ⟨#[115, 49]⟩ := by rw [hy]; rfl
  have he : evW [x, y] = [⟨#[115, 49]⟩] := by
    unfold evW
    simp [List.foldl_cons, List.foldl_nil, ex, ey, wordIn, insW]
  have hf : [x, y].filter (ofEv ⟨#[115, 49]⟩) = [x, y] := by
    simp [ofEv, ex, ey]
  have hs : standS ⟨#[115, 49]⟩ [x, y] = ⟨⟨#[115, 49]⟩, 2, 0, 0⟩ := by
    unfold standS
    rw [if_pos]
    simp [hy, kM, fstW]
  unfold settleR settleS
  rw [hm, if_pos rfl, hv, he]
  simp only [List.map_cons, List.map_nil, hf, hs]
end Go.Proofs.YtohfofecbdfkgaaGreatDoor
