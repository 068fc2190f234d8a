/- The functions that a call of ChecksCompares can come to by plain names: the list, reckoned in parts, and what the row's cells say of it. No conditions. -/
import Derived.Test.YtphclenlannanaaGreatDoorRows
import Derived.JoinedOf
import Derived.KernelRfl
import GoSem.ClaimGoes
namespace Go.X
open Go
noncomputable def viaM (lt : FuncId → List FuncId) (n : Nat) : List FuncId → List FuncId → Nat → List FuncId := Nat.rec (motive := fun _ => List FuncId → List FuncId → Nat → List FuncId) (fun _ seen _ => seen.reverse)
  (fun _ ih todo seen m => List.rec (motive := fun _ => List FuncId) seen.reverse (fun f todo _ => Bool.rec (motive := fun _ => List FuncId) (ih (lt f ++ todo) (f :: seen) (m ||| 2 ^ f)) (ih todo seen m) (m.testBit f)) todo) n
theorem viaM_eq {P : Program} {lt : FuncId → List FuncId} (hl : ∀ f, lt f = (P.funcs[f]?).elim [] P.leadsTo) : ∀ (n : Nat) (todo seen : List FuncId) (m : Nat), (∀ f, m.testBit f = seen.contains f) → viaM lt n todo seen m = P.closureVia n todo seen
  | 0, todo, seen, m, _ => by cases todo <;> rfl
  | n + 1, [], seen, m, _ => rfl
  | n + 1, f :: todo, seen, m, h => by
    have e : viaM lt (n + 1) (f :: todo) seen m = Bool.rec (motive := fun _ => List FuncId) (viaM lt n (lt f ++ todo) (f :: seen) (m ||| 2 ^ f)) (viaM lt n todo seen m) (m.testBit f) := rfl
    rw [e, h f]
    cases hc : seen.contains f with
    | true =>
      have : P.closureVia (n + 1) (f :: todo) seen = P.closureVia n todo seen := by simp only [Program.closureVia, hc, if_true]
      rw [this]
      exact viaM_eq hl n todo seen m h
    | false =>
      have : P.closureVia (n + 1) (f :: todo) seen = P.closureVia n ((P.funcs[f]?).elim [] P.leadsTo ++ todo) (f :: seen) := by simp only [Program.closureVia, hc, Bool.false_eq_true, if_false]
      rw [this, ← hl f]
      refine viaM_eq hl n _ _ _ fun g => ?_
      rw [Nat.testBit_or, Nat.testBit_two_pow, h g, List.contains_cons]
      by_cases hg : f = g
      · subst hg; simp
      · have h1 : (g == f) = false := by simp; exact fun e => hg e.symm
        simp [hg, h1]
theorem cutL {α : Type} (l : List α) (a b : Nat) : (l.drop a).take b ++ l.drop (a + b) = l.drop a := by
  have := List.take_append_drop b (l.drop a)
  rwa [List.drop_drop] at this
theorem lead_of {P : Program} {LT : List (List FuncId)} (h : P.funcs.toList.map P.leadsTo = LT) (f : FuncId) : (LT[f]?).getD [] = (P.funcs[f]?).elim [] P.leadsTo := by
  rw [← h, List.getElem?_map]
  simp only [Array.getElem?_toList]
  cases P.funcs[f]? <;> rfl
theorem closure_of {P : Program} {LT : List (List FuncId)} (h : P.funcs.toList.map P.leadsTo = LT) {f : FuncId} {n : Nat} (hn : 1 + (LT.map fun l => l.length + 1).sum = n) {L : List FuncId} (hL : viaM (fun f => (LT[f]?).getD []) n [f] [] 0 = L) : P.closure f = L := by
  have h1 : (P.funcs.toList.map fun g => (P.leadsTo g).length + 1) = LT.map fun l => l.length + 1 := by rw [← h, List.map_map]; rfl
  unfold Program.closure
  rw [h1, hn, ← hL]
  exact (viaM_eq (lead_of h) n [f] [] 0 (fun g => by simp)).symm
theorem any_none {P : Program} {p : Func → Bool} (h : P.funcs.toList.any p = false) (f : FuncId) : (P.funcs[f]?).any p = false := by
  cases hf : P.funcs[f]? with
  | none => rfl
  | some fn =>
    have hm : fn ∈ P.funcs.toList := by
      have := Array.mem_of_getElem? hf
      simpa using this
    have := List.any_eq_false.1 h fn hm
    simpa using this
end Go.X
namespace Go.Proofs.YtphclenlannanaaGreatDoor
open Go Go.X
set_option maxRecDepth 1000000
def LT0 : List (List FuncId) := [[], [], [1], [4, 5, 5, 6, 7, 8, 9, 8], [10, 10, 12, 11, 13, 13, 13, 12, 15, 14, 16, 17, 19, 18, 13, 16, 14, 15, 18, 16, 12, 16, 13, 13, 16, 12, 20, 14, 13, 16, 15, 18, 15, 14, 16, 12, 17, 12, 21, 12, 21, 16, 22, 22], [23, 24], [26, 26, 26, 25, 26, 26, 26, 25, 27, 28, 25], [29, 30], [6, 31, 31], [7, 32], [], [33], [10, 10, 20, 15, 14, 18, 18, 18, 19, 18, 20, 19, 18, 20, 15, 18, 18, 15, 15, 14, 19, 19, 18, 15, 18, 19, 18, 18, 18, 15, 14], [34, 35], [], [34], [11, 36], [37], [], [35], [10, 18], [38, 39], [41, 40, 42], [44], [45], [], [46, 46], [], [47, 48], [], [49], [50, 51], [54], [55, 56, 57, 58, 60, 59], [61], [], [50, 62], [], [63, 64], [65, 66, 68, 67, 65, 66, 69, 67], [70], [41], [43], [], [], [24, 24], [], [], [26, 26, 25, 71, 72, 25, 73, 48, 73, 48], [74, 74, 75, 76, 54, 54], [], [52, 53], [], [48], [74, 49], [38, 22, 41, 43, 77, 78, 77], [38, 80, 79], [38, 83, 84, 28, 85, 86, 87, 84, 28, 85, 89, 88], [90, 91], [], [92], [], [30], [97, 98], [99, 100, 101, 99, 102, 103, 99, 105, 104, 107, 108, 99, 109, 110, 99, 111, 112, 113, 114, 67], [38, 116, 117], [118], [119], [66], [66], [], [26, 26], [120, 120], [26], [], [121, 121], [122], [38, 123], [], [124], [81, 82], [125, 126, 127, 128, 129, 130, 131, 132, 133, 134, 135, 136, 137, 138, 139, 140, 141, 142, 143, 144, 145, 146, 147, 148, 149, 150, 151, 152, 153, 154, 155, 156, 157, 158, 159, 160, 161, 162, 163, 164, 165, 166, 167, 168], [170, 169], [171, 172], [96, 173], [174], [175], [176, 177, 178, 177], [179, 180], [181], [182, 183, 174, 185], [], [58, 93, 94, 95, 95, 96], [], [186], [188, 189], [], [], [], [190, 191]]
theorem lt0 : ((Tryz.prog.funcs.toList.drop 0).take 100).map Tryz.prog.leadsTo = LT0 := by kernel_rfl
def LT1 : List (List FuncId) := [[], [], [], [], [192], [106], [184, 193], [], [], [], [], [99, 195, 194], [196, 197, 198, 199, 201, 200, 202, 203, 115, 98], [204], [115], [205, 206, 207, 209, 208, 115], [182, 210], [211, 79], [213], [], [], [74, 74], [214], [63, 115], [], [], [215], [], [], [215, 216, 170], [217, 218], [219], [221, 67, 220], [222, 67, 220], [82, 220], [82, 82, 220], [82, 82, 220], [223, 82, 220, 220], [223, 82, 220, 220], [224, 225, 82], [219, 53, 220], [170, 212, 220], [224, 226, 220], [219, 228, 227], [224, 230, 229], [232, 231, 225, 170, 228, 227], [224, 215, 233, 234, 229, 228, 227], [224, 169, 228, 227], [235, 236, 228, 227], [235, 237, 229], [235, 239, 229], [232, 231, 225, 170, 233, 240, 227, 241, 227], [219, 169, 242], [243], [235, 245, 244], [243, 170, 242, 225, 170, 246, 227], [247, 219, 241, 227], [247, 232, 244], [243, 248, 242], [219, 240, 227], [219, 169, 249, 244], [250, 170], [82, 170, 215, 170], [170, 225, 170], [215, 251, 252, 253, 220, 220], [215, 251, 252, 253, 253, 220, 220], [215, 254, 220], [255, 256, 219, 169, 258, 257, 169, 259, 169, 169, 189, 189, 260, 241, 227, 241, 227, 261], [], [215], [252, 252], [176, 262], [173, 28, 263, 264], [266, 265], [267, 268], [], [38, 65], [213], [269, 172], [270], [266, 271], [], [272], [184], [273], [26, 26, 25], [187], [118, 178], [90, 274], [], [275, 184], [276], [], [191, 277, 182, 182], [278], [191], [279], [], [280], []]
theorem lt1 : ((Tryz.prog.funcs.toList.drop 100).take 100).map Tryz.prog.leadsTo = LT1 := by kernel_rfl
def LT2 : List (List FuncId) := [[281], [], [], [], [], [], [282, 106, 283, 284], [205, 282, 196, 285, 208, 115], [286], [], [184], [81, 212], [252, 287, 226, 224, 52, 53, 226, 247, 52, 53, 288, 289, 288, 212, 212, 212, 212, 250, 212, 170, 225, 212, 217, 291, 290, 255, 292, 292, 224, 238], [293], [], [], [], [294, 170], [295, 290], [170], [], [82], [82], [296], [170, 169], [298], [299, 182], [215], [300, 302, 301, 48, 304, 53, 303], [], [225, 82], [305], [224], [215], [], [219, 169, 169], [307], [238], [273, 308], [238], [300, 309, 189, 303], [300, 300, 310, 303], [260, 215], [170, 169], [311, 233, 231, 241, 227, 228, 227], [312], [273, 273, 273, 308, 189, 303], [248], [], [259], [82], [313, 215, 215], [215], [314, 79, 316, 315], [317, 67, 318, 290, 216, 170, 216, 170, 53], [219, 169, 169], [319, 257, 320, 257, 321, 257, 322, 215, 323, 257, 324, 257, 322, 215, 325, 257, 292, 220, 292, 220, 326], [215], [327, 328], [329], [273, 308], [330, 259, 215, 240, 227, 189, 240, 227, 330, 236, 240, 227, 169, 169, 292, 240, 227, 322, 329, 292, 215, 331, 331, 240, 227], [332, 334, 333], [], [52, 53], [338, 339, 340, 341, 342, 343, 344, 345, 265, 265], [346, 347], [273, 348, 349], [350], [176, 262], [], [351, 352, 353, 354, 355, 356, 357, 358, 359, 271, 271], [], [360, 361, 362], [91, 363], [], [], [193], [], [], [], [], [], [], [190], [], [], [289, 226], [212], [364, 273, 189], [215], [212], [365, 365, 366, 365, 365, 366], [367, 368, 79, 369], [370, 371], [170], [297], [224, 225, 297], [], [212]]
theorem lt2 : ((Tryz.prog.funcs.toList.drop 200).take 100).map Tryz.prog.leadsTo = LT2 := by kernel_rfl
def LT3 : List (List FuncId) := [[182, 373], [374, 375], [376], [360], [], [306], [189, 377, 306], [], [378, 48], [259], [189, 189, 379, 53], [], [380, 381], [382, 79, 231], [170], [383], [], [252, 254], [252, 254], [384], [384], [384], [], [384], [384], [385, 386, 388, 387, 331, 390, 387], [292, 320, 215, 331, 215, 329, 319, 228, 227], [196, 391], [365, 392], [392], [289, 215], [327, 394, 393], [395, 396, 397, 398, 399, 400, 401, 402, 402, 403, 404, 405, 406, 406, 407, 408, 409, 410, 411, 412, 413, 414, 415, 416, 416, 416, 417, 418, 419, 420, 421, 422, 423, 424, 425, 426, 427, 428, 429, 430, 431, 432, 433, 434], [435], [336, 335, 337], [436], [439], [440, 189, 65, 440, 440], [], [441, 441], [442, 443], [444, 444, 444, 445], [], [], [], [], [], [], [446, 446, 220, 446, 447, 447, 447, 448, 447, 236, 348], [], [273, 449], [357], [450, 450], [442, 443], [451, 451, 451, 452], [], [357, 357, 357], [46, 46], [357, 357], [357, 357, 357, 357], [453], [454], [327, 456, 457, 458], [], [259, 53], [], [26, 459, 26], [38, 123, 182, 460, 116, 116, 225], [81, 170], [203, 461, 461], [225, 218], [372, 290], [225, 170], [273], [462], [266, 463], [], [], [], [266, 464], [], [], [81, 224], [], [385, 465, 466, 387], [327], [], [467], [389], [468, 469, 469], [389], [], [470, 203], [471, 472], [473, 473, 365, 459, 474, 475, 476, 477], [], [440], [], [], [440, 478]]
theorem lt3 : ((Tryz.prog.funcs.toList.drop 300).take 100).map Tryz.prog.leadsTo = LT3 := by kernel_rfl
def LT4 : List (List FuncId) := [[479, 480, 478], [481, 480, 482, 478], [483, 220, 220], [483, 220], [483, 483, 220], [483, 483, 220], [484, 220], [485, 486, 483], [481, 53, 220], [478, 487, 220], [485, 487, 220, 220], [481, 228, 488], [485, 486, 483], [490, 491, 489, 228, 488], [485, 440, 228, 488], [485, 440, 228, 488], [492, 236, 228, 488, 378, 48], [490, 493, 489, 241, 488], [481, 440, 494], [495], [492, 496, 497, 489, 228, 488], [495, 478, 494, 486, 478, 246, 488], [481, 498, 488], [490, 499, 498, 488, 228, 488], [495, 248, 494], [481, 240, 488], [492, 499, 240, 488, 228, 488], [483, 478, 478], [500, 478], [478, 486, 478], [501, 440, 502, 437, 439, 503, 220, 220], [501, 501, 440, 502, 437, 439, 439, 503, 503, 220, 220], [440, 504, 483, 220, 220, 480, 478, 478, 478, 53, 220], [481, 505, 506, 258, 507, 506, 292, 220, 292, 220, 508, 322, 440, 440, 509, 507], [], [], [437, 438], [], [510, 511, 512, 513, 483, 335, 335, 500, 335, 478, 514, 335, 479, 516, 515, 481, 482, 517, 515, 518, 478, 520, 519, 518, 521, 522, 523], [], [], [], [266], [], [445], [524, 524, 524], [525, 526], [446], [525, 526], [527, 528], [357, 357], [452], [529, 529, 529], [361], [455], [], [], [530, 531], [48], [532], [184], [369], [], [533, 534, 535, 536, 537, 538, 539, 540, 463, 463], [541, 542, 543, 544, 545, 546, 547, 548, 464, 464], [549, 550, 469, 551, 553], [], [], [], [365, 365, 554, 392], [], [555], [556, 557, 558, 559], [560], [561], [312, 562, 562, 562, 562, 562, 563, 476, 564, 564, 564, 477, 476, 477], [560], [], [437, 437], [478, 565], [440, 566], [478], [486], [478, 440], [483, 485, 486], [495], [567], [437, 568, 569, 485, 52, 53, 569, 570, 571, 572, 289, 572, 487, 487, 487, 487, 483, 487, 487, 478, 486, 487, 479, 480, 487, 481, 440, 292, 292, 485, 573, 182], [440], [574], [485], [486, 478], [481, 440], [486, 478, 240, 488], [378, 48, 440], [478, 440], [440], [], [248, 241], [496, 575, 489]]
theorem lt4 : ((Tryz.prog.funcs.toList.drop 400).take 100).map Tryz.prog.leadsTo = LT4 := by kernel_rfl
def LT5 : List (List FuncId) := [[483, 440], [], [576, 440, 440], [577, 478], [], [579, 259, 579, 440, 579, 440, 240, 488, 579, 240, 488, 579, 579, 240, 488, 579, 506, 506, 580, 440, 259, 581, 581, 582, 241, 488], [440], [440], [292, 320, 440, 331, 440, 329, 319, 507, 228, 488], [319, 320, 321, 323, 324, 325], [], [583], [585], [335, 588], [567], [589], [335], [335], [], [590], [], [591], [520, 519, 511, 592, 515], [593], [], [], [594, 595, 525, 596], [448, 597, 448, 598, 448, 446, 600, 599, 446, 601], [], [357], [], [530], [], [], [602, 602], [442, 443], [603, 603, 603, 604], [], [], [], [], [], [605, 605], [606, 607], [608, 608, 608, 609], [], [], [], [], [365, 365, 610, 392, 365, 365, 366, 365, 365, 611, 392, 365, 365, 611, 392], [328, 549], [552], [365, 365, 612, 392, 392, 468, 328, 549, 549], [552], [613, 470], [614, 614, 614, 614, 614, 614, 615], [616], [616], [616, 474, 617], [616, 474, 617], [618], [619], [620], [560, 621], [], [], [], [], [289, 569], [622, 182], [248, 53], [], [487], [53], [189, 377], [], [38, 313, 623], [578], [624], [289, 440], [292, 240, 488, 331, 331, 440, 240, 488], [440], [189, 189, 378, 48, 241, 488], [335, 511, 584, 584], [625], [586, 335, 587], [626], [], [510, 485, 586, 514, 513, 587], [480, 587], [], [510, 485, 586, 520], [335], [510, 440], [], [], [627], [327, 394], [446, 446, 446, 446], [448]]
theorem lt5 : ((Tryz.prog.funcs.toList.drop 500).take 100).map Tryz.prog.leadsTo = LT5 := by kernel_rfl
def LT6 : List (List FuncId) := [[527], [364, 448, 628, 599, 448, 629, 446, 630, 599, 446, 446, 631, 599, 446], [], [604], [632, 632, 632], [], [266], [], [609], [633, 633, 633], [634, 634], [634, 470], [459, 470, 366, 554, 366, 554, 611, 470], [634], [], [614, 614, 614, 614, 614, 614], [], [], [], [635, 636, 637, 638], [], [639], [487], [461], [], [], [], [], [527], [182, 640], [448, 527], [527, 448, 527], [], [], [], [], [347, 641, 642], [], [643, 644], [], [457], [], [], [], [645, 646], [], [], [], [], [], [], [], [], [], [], [], [], [], [], [], [], [], [], [], [], [118], [43, 118, 78, 118], [], [48], [], [], [], [], [], [], [], [], [], [], [], [], [], [], [617, 617, 617]]
theorem lt6 : (Tryz.prog.funcs.toList.drop 600).map Tryz.prog.leadsTo = LT6 := by kernel_rfl
def LT : List (List FuncId) := LT0 ++ (LT1 ++ (LT2 ++ (LT3 ++ (LT4 ++ (LT5 ++ (LT6))))))
theorem lt_all : Tryz.prog.funcs.toList.map Tryz.prog.leadsTo = LT := by
  unfold LT
  rw [← lt0, ← lt1, ← lt2, ← lt3, ← lt4, ← lt5, ← lt6]
  simp only [← List.map_append]
  have h0 : Tryz.prog.funcs.toList = Tryz.prog.funcs.toList.drop 0 := rfl
  refine congrArg _ ?_
  rw [cutL _ 500 100, cutL _ 400 100, cutL _ 300 100, cutL _ 200 100, cutL _ 100 100, cutL _ 0 100]
  rfl
noncomputable def LA : List FuncId := [3, 4, 10, 12, 20, 18, 15, 34, 61, 14, 19, 35, 11, 33, 55, 38, 63, 97, 98, 64, 99, 190, 275, 184, 273, 360, 453, 361, 454, 455, 362, 327, 196, 279, 391, 456, 457, 530, 531, 458, 48, 26, 46, 25, 71, 72, 120, 73, 191, 276, 100, 101, 102, 103, 105, 106, 193, 277, 182, 272, 104, 192, 107, 108, 109, 110, 111, 195, 194, 278, 112, 197, 198, 280, 199, 201, 200, 281, 202, 203, 115, 205, 206, 282, 283, 284, 207, 285, 208, 286, 209, 113, 204, 114, 67, 119, 22, 41, 40, 70, 42, 43, 77, 123, 78, 56, 80, 81, 125, 126, 215, 127, 128, 129, 216, 170, 252, 130, 217, 294, 370, 225, 298, 218, 295, 290, 371, 372, 131, 219, 132, 221, 82, 169, 220, 133, 222, 134, 135, 136, 137, 223, 296, 297, 224, 138, 139, 140, 53, 141, 212, 287, 289, 364, 259, 329, 392, 470, 189, 226, 299, 52, 247, 248, 288, 250, 291, 255, 292, 365, 366, 459, 532, 238, 308, 378, 142, 143, 228, 300, 373, 302, 376, 301, 374, 462, 375, 266, 346, 347, 463, 533, 534, 602, 535, 442, 443, 536, 603, 604, 632, 537, 538, 539, 540, 304, 303, 227, 144, 230, 229, 145, 232, 231, 305, 306, 377, 146, 233, 234, 147, 148, 235, 236, 307, 149, 237, 150, 239, 151, 240, 309, 241, 310, 379, 464, 541, 542, 605, 543, 606, 607, 544, 608, 609, 633, 545, 546, 547, 548, 152, 242, 260, 153, 243, 154, 245, 312, 380, 381, 244, 311, 155, 246, 156, 157, 158, 159, 160, 249, 161, 162, 163, 164, 251, 313, 382, 79, 124, 253, 314, 316, 315, 383, 165, 166, 254, 317, 318, 167, 256, 319, 384, 385, 465, 549, 610, 634, 611, 550, 328, 469, 554, 613, 551, 552, 612, 468, 553, 466, 387, 467, 257, 320, 321, 322, 323, 324, 325, 386, 388, 389, 331, 394, 473, 560, 618, 474, 561, 619, 635, 636, 641, 642, 637, 638, 643, 644, 645, 646, 475, 562, 620, 563, 621, 639, 476, 564, 477, 393, 471, 555, 614, 615, 472, 556, 616, 557, 558, 617, 559, 390, 326, 258, 261, 330, 168, 57, 83, 171, 176, 65, 116, 210, 117, 211, 262, 332, 395, 396, 440, 397, 398, 399, 478, 437, 400, 479, 565, 480, 566, 401, 481, 482, 486, 567, 402, 483, 403, 404, 405, 406, 484, 485, 495, 407, 408, 409, 487, 568, 569, 622, 570, 571, 572, 573, 410, 411, 488, 412, 413, 490, 491, 489, 574, 414, 415, 416, 492, 417, 493, 418, 494, 419, 420, 496, 497, 421, 422, 498, 423, 499, 575, 424, 425, 426, 427, 428, 500, 429, 430, 501, 502, 576, 623, 461, 369, 439, 503, 577, 578, 624, 431, 432, 504, 433, 505, 579, 506, 580, 581, 582, 507, 508, 509, 434, 334, 336, 335, 436, 438, 510, 511, 583, 584, 625, 512, 585, 586, 626, 587, 513, 588, 514, 516, 515, 589, 517, 518, 520, 519, 590, 521, 591, 522, 592, 523, 593, 337, 333, 435, 172, 173, 265, 338, 339, 441, 340, 341, 444, 445, 524, 342, 343, 344, 345, 28, 47, 263, 264, 84, 96, 85, 174, 267, 348, 446, 525, 526, 594, 595, 596, 627, 447, 448, 349, 268, 350, 449, 527, 597, 598, 600, 599, 601, 628, 629, 640, 630, 631, 528, 86, 175, 87, 177, 213, 293, 367, 460, 368, 178, 269, 89, 181, 88, 179, 270, 180, 271, 351, 357, 352, 450, 353, 354, 451, 452, 529, 355, 356, 358, 359, 58, 90, 183, 185, 91, 60, 92, 93, 94, 186, 187, 118, 95, 188, 274, 363, 59, 13, 16, 36, 50, 62, 30, 49, 74, 75, 121, 76, 122, 214, 54, 17, 37, 21, 39, 66, 68, 69, 5, 23, 44, 24, 45, 6, 27, 7, 29, 8, 31, 51, 9, 32]
theorem fuel : 1 + (LT.map fun l => l.length + 1).sum = 2320 := by kernel_rfl
theorem via : viaM (fun f => (LT[f]?).getD []) 2320 [3] [] 0 = LA := by kernel_rfl
theorem clo : Tryz.prog.closure 3 = LA := closure_of lt_all fuel via
theorem j9 : (Rows.checksComparesRow.inPlace == Tryz.prog.inPlace 3) = true := by
  have h : Tryz.prog.inPlace 3 = Rows.checksComparesRow.inPlace := by
    unfold Program.inPlace
    rw [clo]
    kernel_rfl
  rw [h]; exact beq_self_eq_true _
theorem unf : Tryz.prog.unfollowed 3 = true := by
  unfold Program.unfollowed
  rw [clo]
  kernel_rfl
theorem j10 : (Rows.checksComparesRow.unfollowed == Tryz.prog.unfollowed 3) = true := by rw [unf]; rfl
theorem j11 : (Rows.checksComparesRow.recurses == Tryz.prog.recurses 3) = true := by
  unfold Program.recurses
  rw [unf]; rfl
def LA0 : List FuncId := [3, 4, 10, 12, 20, 18, 15, 34, 61, 14, 19, 35, 11, 33, 55, 38, 63, 97, 98, 64, 99, 190, 275, 184, 273, 360, 453, 361, 454, 455, 362, 327, 196, 279, 391, 456, 457, 530, 531, 458, 48, 26, 46, 25, 71, 72, 120, 73, 191, 276, 100, 101, 102, 103, 105, 106, 193, 277, 182, 272, 104, 192, 107, 108, 109, 110, 111, 195, 194, 278, 112, 197, 198, 280, 199, 201, 200, 281, 202, 203, 115, 205, 206, 282, 283, 284, 207, 285, 208, 286, 209, 113, 204, 114, 67, 119, 22, 41, 40, 70]
def LA1 : List FuncId := [42, 43, 77, 123, 78, 56, 80, 81, 125, 126, 215, 127, 128, 129, 216, 170, 252, 130, 217, 294, 370, 225, 298, 218, 295, 290, 371, 372, 131, 219, 132, 221, 82, 169, 220, 133, 222, 134, 135, 136, 137, 223, 296, 297, 224, 138, 139, 140, 53, 141, 212, 287, 289, 364, 259, 329, 392, 470, 189, 226, 299, 52, 247, 248, 288, 250, 291, 255, 292, 365, 366, 459, 532, 238, 308, 378, 142, 143, 228, 300, 373, 302, 376, 301, 374, 462, 375, 266, 346, 347, 463, 533, 534, 602, 535, 442, 443, 536, 603, 604]
def LA2 : List FuncId := [632, 537, 538, 539, 540, 304, 303, 227, 144, 230, 229, 145, 232, 231, 305, 306, 377, 146, 233, 234, 147, 148, 235, 236, 307, 149, 237, 150, 239, 151, 240, 309, 241, 310, 379, 464, 541, 542, 605, 543, 606, 607, 544, 608, 609, 633, 545, 546, 547, 548, 152, 242, 260, 153, 243, 154, 245, 312, 380, 381, 244, 311, 155, 246, 156, 157, 158, 159, 160, 249, 161, 162, 163, 164, 251, 313, 382, 79, 124, 253, 314, 316, 315, 383, 165, 166, 254, 317, 318, 167, 256, 319, 384, 385, 465, 549, 610, 634, 611, 550]
def LA3 : List FuncId := [328, 469, 554, 613, 551, 552, 612, 468, 553, 466, 387, 467, 257, 320, 321, 322, 323, 324, 325, 386, 388, 389, 331, 394, 473, 560, 618, 474, 561, 619, 635, 636, 641, 642, 637, 638, 643, 644, 645, 646, 475, 562, 620, 563, 621, 639, 476, 564, 477, 393, 471, 555, 614, 615, 472, 556, 616, 557, 558, 617, 559, 390, 326, 258, 261, 330, 168, 57, 83, 171, 176, 65, 116, 210, 117, 211, 262, 332, 395, 396, 440, 397, 398, 399, 478, 437, 400, 479, 565, 480, 566, 401, 481, 482, 486, 567, 402, 483, 403, 404]
def LA4 : List FuncId := [405, 406, 484, 485, 495, 407, 408, 409, 487, 568, 569, 622, 570, 571, 572, 573, 410, 411, 488, 412, 413, 490, 491, 489, 574, 414, 415, 416, 492, 417, 493, 418, 494, 419, 420, 496, 497, 421, 422, 498, 423, 499, 575, 424, 425, 426, 427, 428, 500, 429, 430, 501, 502, 576, 623, 461, 369, 439, 503, 577, 578, 624, 431, 432, 504, 433, 505, 579, 506, 580, 581, 582, 507, 508, 509, 434, 334, 336, 335, 436, 438, 510, 511, 583, 584, 625, 512, 585, 586, 626, 587, 513, 588, 514, 516, 515, 589, 517, 518, 520]
def LA5 : List FuncId := [519, 590, 521, 591, 522, 592, 523, 593, 337, 333, 435, 172, 173, 265, 338, 339, 441, 340, 341, 444, 445, 524, 342, 343, 344, 345, 28, 47, 263, 264, 84, 96, 85, 174, 267, 348, 446, 525, 526, 594, 595, 596, 627, 447, 448, 349, 268, 350, 449, 527, 597, 598, 600, 599, 601, 628, 629, 640, 630, 631, 528, 86, 175, 87, 177, 213, 293, 367, 460, 368, 178, 269, 89, 181, 88, 179, 270, 180, 271, 351, 357, 352, 450, 353, 354, 451, 452, 529, 355, 356, 358, 359, 58, 90, 183, 185, 91, 60, 92, 93]
def LA6 : List FuncId := [94, 186, 187, 118, 95, 188, 274, 363, 59, 13, 16, 36, 50, 62, 30, 49, 74, 75, 121, 76, 122, 214, 54, 17, 37, 21, 39, 66, 68, 69, 5, 23, 44, 24, 45, 6, 27, 7, 29, 8, 31, 51, 9, 32]
theorem la : LA = LA0 ++ (LA1 ++ (LA2 ++ (LA3 ++ (LA4 ++ (LA5 ++ (LA6)))))) := by kernel_rfl
theorem g0 : (LA0.flatMap fun g => ((Tryz.prog.funcs[g]?).bind (·.body)).elim [] Code.globalsNamed) = [] := by kernel_rfl
theorem e0e : (LA0.filterMap fun g => (Tryz.prog.funcs[g]?).bind fun fn => if fn.body.isNone then entryReads.lookup fn.name else none) = [] := by kernel_rfl
theorem g1 : (LA1.flatMap fun g => ((Tryz.prog.funcs[g]?).bind (·.body)).elim [] Code.globalsNamed) = [] := by kernel_rfl
theorem e1e : (LA1.filterMap fun g => (Tryz.prog.funcs[g]?).bind fun fn => if fn.body.isNone then entryReads.lookup fn.name else none) = [] := by kernel_rfl
theorem g2 : (LA2.flatMap fun g => ((Tryz.prog.funcs[g]?).bind (·.body)).elim [] Code.globalsNamed) = [] := by kernel_rfl
theorem e2e : (LA2.filterMap fun g => (Tryz.prog.funcs[g]?).bind fun fn => if fn.body.isNone then entryReads.lookup fn.name else none) = [] := by kernel_rfl
theorem g3 : (LA3.flatMap fun g => ((Tryz.prog.funcs[g]?).bind (·.body)).elim [] Code.globalsNamed) = [4, 5, 6, 2, 3] := by kernel_rfl
theorem e3e : (LA3.filterMap fun g => (Tryz.prog.funcs[g]?).bind fun fn => if fn.body.isNone then entryReads.lookup fn.name else none) = [] := by kernel_rfl
theorem g4 : (LA4.flatMap fun g => ((Tryz.prog.funcs[g]?).bind (·.body)).elim [] Code.globalsNamed) = [] := by kernel_rfl
theorem e4e : (LA4.filterMap fun g => (Tryz.prog.funcs[g]?).bind fun fn => if fn.body.isNone then entryReads.lookup fn.name else none) = [] := by kernel_rfl
theorem g5 : (LA5.flatMap fun g => ((Tryz.prog.funcs[g]?).bind (·.body)).elim [] Code.globalsNamed) = [1, 1] := by kernel_rfl
theorem e5e : (LA5.filterMap fun g => (Tryz.prog.funcs[g]?).bind fun fn => if fn.body.isNone then entryReads.lookup fn.name else none) = [] := by kernel_rfl
theorem g6 : (LA6.flatMap fun g => ((Tryz.prog.funcs[g]?).bind (·.body)).elim [] Code.globalsNamed) = [] := by kernel_rfl
theorem e6e : (LA6.filterMap fun g => (Tryz.prog.funcs[g]?).bind fun fn => if fn.body.isNone then entryReads.lookup fn.name else none) = [] := by kernel_rfl
theorem j12 : (Rows.checksComparesRow.named == Tryz.prog.varsNamed 3) = true := by
  have h : Tryz.prog.varsNamed 3 = Rows.checksComparesRow.named := by
    unfold Program.varsNamed
    rw [clo, la]
    simp only [List.flatMap_append, List.filterMap_append]
    rw [g0, e0e, g1, e1e, g2, e2e, g3, e3e, g4, e4e, g5, e5e, g6, e6e]
    kernel_rfl
  rw [h]; exact beq_self_eq_true _
theorem n0 : ((Tryz.prog.funcs.toList.drop 0).take 100).any Func.goes = false := by kernel_rfl
theorem n1 : ((Tryz.prog.funcs.toList.drop 100).take 100).any Func.goes = false := by kernel_rfl
theorem n2 : ((Tryz.prog.funcs.toList.drop 200).take 100).any Func.goes = false := by kernel_rfl
theorem n3 : ((Tryz.prog.funcs.toList.drop 300).take 100).any Func.goes = false := by kernel_rfl
theorem n4 : ((Tryz.prog.funcs.toList.drop 400).take 100).any Func.goes = false := by kernel_rfl
theorem n5 : ((Tryz.prog.funcs.toList.drop 500).take 100).any Func.goes = false := by kernel_rfl
theorem n6 : (Tryz.prog.funcs.toList.drop 600).any Func.goes = false := by kernel_rfl
theorem noGo : Tryz.prog.funcs.toList.any Func.goes = false := by
  have h0 : Tryz.prog.funcs.toList = ((Tryz.prog.funcs.toList.drop 0).take 100) ++ (((Tryz.prog.funcs.toList.drop 100).take 100) ++ (((Tryz.prog.funcs.toList.drop 200).take 100) ++ (((Tryz.prog.funcs.toList.drop 300).take 100) ++ (((Tryz.prog.funcs.toList.drop 400).take 100) ++ (((Tryz.prog.funcs.toList.drop 500).take 100) ++ (Tryz.prog.funcs.toList.drop 600)))))) := by
    rw [cutL _ 500 100, cutL _ 400 100, cutL _ 300 100, cutL _ 200 100, cutL _ 100 100, cutL _ 0 100]
    rfl
  rw [h0]
  simp only [List.any_append, n0, n1, n2, n3, n4, n5, n6, Bool.or_false]
theorem c1 : Tryz.prog.funcNamed "foregone/foregonelaw25.ChecksCompares" = some 3 := by kernel_rfl
theorem hfunc : Rows.checksComparesRow.func = "foregone/foregonelaw25.ChecksCompares" := rfl
theorem hstart : Rows.checksComparesRow.start = .entering := rfl
theorem goes_of {P : Program} {f : FuncId} (h : P.funcs.toList.any Func.goes = false) : P.goes f = false := by
  have h1 : (P.closure f).any (fun g => (P.funcs[g]?).any Func.goes) = false := List.any_eq_false.2 fun g _ => by rw [any_none h g]; simp
  have h2 : P.funcs.any Func.goes = false := by rw [← Array.any_toList]; exact h
  unfold Program.goes
  rw [h1, h2]; simp
theorem from_of {P : Program} {n : String} {f : FuncId} (hn : P.funcNamed n = some f) (h : P.goes f = false) : P.goesFrom n = false := by
  unfold Program.goesFrom
  rw [hn]; exact h
theorem by_of {P : Program} {c : OpenClaim} {n : String} (hc : c.func = n) (hs : c.start = .entering) (h : P.goesFrom n = false) : false = c.goesBy P := by
  unfold OpenClaim.goesBy Program.goesAt
  rw [hc, hs, h]; rfl
theorem c5 : false = Rows.checksComparesRow.goesBy Tryz.prog := by_of hfunc hstart (from_of c1 (goes_of noGo))
end Go.Proofs.YtphclenlannanaaGreatDoor
