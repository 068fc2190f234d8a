/- The functions that a call of ChecksParts can come to by plain names: the list, reckoned in parts, and what the row's cells say of it. No conditions. -/
import Derived.Test.YtjbkanbdnoepmaaGreatDoorRows
import Derived.JoinedOf
import Derived.KernelRfl
import GoSem.ClaimGoes
namespace Go.X
open Go
/-- The list of functions come to, with a number whose bits say which were seen. -/
noncomputable def viaM (lt : FuncId → List FuncId) (n : Nat) : List FuncId → List FuncId → Nat → List FuncId := Nat.rec (motive := fun _ => List FuncId → List FuncId → Nat → List FuncId) (fun _ seen _ => seen.reverse)
  (fun _ ih todo seen m => List.rec (motive := fun _ => List FuncId) seen.reverse (fun f todo _ => Bool.rec (motive := fun _ => List FuncId) (ih (lt f ++ todo) (f :: seen) (m ||| 2 ^ f)) (ih todo seen m) (m.testBit f)) todo) n
theorem viaM_eq {P : Program} {lt : FuncId → List FuncId} (hl : ∀ f, lt f = (P.funcs[f]?).elim [] P.leadsTo) : ∀ (n : Nat) (todo seen : List FuncId) (m : Nat), (∀ f, m.testBit f = seen.contains f) → viaM lt n todo seen m = P.closureVia n todo seen
  | 0, todo, seen, m, _ => by cases todo <;> rfl
  | n + 1, [], seen, m, _ => rfl
  | n + 1, f :: todo, seen, m, h => by
    have e : viaM lt (n + 1) (f :: todo) seen m = Bool.rec (motive := fun _ => List FuncId) (viaM lt n (lt f ++ todo) (f :: seen) (m ||| 2 ^ f)) (viaM lt n todo seen m) (m.testBit f) := rfl
    rw [e, h f]
    cases hc : seen.contains f with
    | true =>
      have : P.closureVia (n + 1) (f :: todo) seen = P.closureVia n todo seen := by simp only [Program.closureVia, hc, if_true]
      rw [this]
      exact viaM_eq hl n todo seen m h
    | false =>
      have : P.closureVia (n + 1) (f :: todo) seen = P.closureVia n ((P.funcs[f]?).elim [] P.leadsTo ++ todo) (f :: seen) := by simp only [Program.closureVia, hc, Bool.false_eq_true, if_false]
      rw [this, ← hl f]
      refine viaM_eq hl n _ _ _ fun g => ?_
      rw [Nat.testBit_or, Nat.testBit_two_pow, h g, List.contains_cons]
      by_cases hg : f = g
      · subst hg; simp
      · have h1 : (g == f) = false := by simp; exact fun e => hg e.symm
        simp [hg, h1]
theorem cutL {α : Type} (l : List α) (a b : Nat) : (l.drop a).take b ++ l.drop (a + b) = l.drop a := by
  have := List.take_append_drop b (l.drop a)
  rwa [List.drop_drop] at this
theorem lead_of {P : Program} {LT : List (List FuncId)} (h : P.funcs.toList.map P.leadsTo = LT) (f : FuncId) : (LT[f]?).getD [] = (P.funcs[f]?).elim [] P.leadsTo := by
  rw [← h, List.getElem?_map]
  simp only [Array.getElem?_toList]
  cases P.funcs[f]? <;> rfl
theorem closure_of {P : Program} {LT : List (List FuncId)} (h : P.funcs.toList.map P.leadsTo = LT) {f : FuncId} {n : Nat} (hn : 1 + (LT.map fun l => l.length + 1).sum = n) {L : List FuncId} (hL : viaM (fun f => (LT[f]?).getD []) n [f] [] 0 = L) : P.closure f = L := by
  have h1 : (P.funcs.toList.map fun g => (P.leadsTo g).length + 1) = LT.map fun l => l.length + 1 := by rw [← h, List.map_map]; rfl
  unfold Program.closure
  rw [h1, hn, ← hL]
  exact (viaM_eq (lead_of h) n [f] [] 0 (fun g => by simp)).symm
theorem any_none {P : Program} {p : Func → Bool} (h : P.funcs.toList.any p = false) (f : FuncId) : (P.funcs[f]?).any p = false := by
  cases hf : P.funcs[f]? with
  | none => rfl
  | some fn =>
    have hm : fn ∈ P.funcs.toList := by
      have := Array.mem_of_getElem? hf
      simpa using this
    have := List.any_eq_false.1 h fn hm
    simpa using this
end Go.X
namespace Go.Proofs.YtjbkanbdnoepmaaGreatDoor
open Go Go.X
set_option maxRecDepth 1000000
def LT0 : List (List FuncId) := [[], [], [1], [4, 5, 7, 8, 6, 9, 10], [11, 11, 13, 12, 14, 14, 14, 13, 16, 15, 17, 18, 20, 19, 14, 17, 15, 16, 19, 17, 13, 17, 14, 14, 17, 13, 21, 15, 14, 17, 16, 19, 16, 15, 17, 13, 18, 13, 22, 13, 22, 17, 9, 9], [23, 23, 5], [24, 25], [7], [8], [7, 27, 28], [8, 30], [], [31], [11, 11, 21, 16, 15, 19, 19, 19, 20, 19, 21, 20, 19, 21, 16, 19, 19, 16, 16, 15, 20, 20, 19, 16, 19, 20, 19, 19, 19, 16, 15], [32, 33], [], [32], [12, 34], [35], [], [33], [11, 19], [36, 37], [38, 39], [], [26, 26, 6], [40, 41, 26], [42], [29], [], [43], [44, 45, 46, 47, 49, 48], [50], [], [51, 52], [], [54, 55], [56, 57, 59, 58, 56, 57, 60, 58], [61, 61], [23], [], [62], [], [], [36, 9, 7, 29, 63, 64, 63], [36, 66, 65], [36, 69, 70, 71, 72, 73, 74, 70, 71, 72, 76, 75], [77, 78], [], [79], [], [], [53], [62], [84, 85], [86, 87, 88, 86, 89, 90, 86, 92, 91, 94, 95, 86, 96, 97, 86, 98, 99, 100, 101, 58], [36, 103, 104], [105], [106], [57], [57], [38], [107, 107, 108, 109, 110, 110], [36, 111], [], [112], [67, 68], [113, 114, 115, 116, 117, 118, 119, 120, 121, 122, 123, 124, 125, 126, 127, 128, 129, 130, 131, 132, 133, 134, 135, 136, 137, 138, 139, 140, 141, 142, 143, 144, 145, 146, 147, 148, 149, 150, 151, 152, 153, 154, 155, 156], [158, 157], [159, 160], [83, 161], [162, 163], [164], [165], [166, 167, 168, 167], [169, 170], [171], [172, 173, 164, 175], [], [47, 80, 81, 82, 82, 83], [], [176], [178, 179], [], [], [], [180, 181], [], [], [], [], [182], [93], [174, 183], [], [], [], [], [86, 185, 184], [186, 187, 188, 189, 191, 190, 192, 193, 102, 85]]
theorem lt0 : ((Tryz.prog.funcs.toList.drop 0).take 100).map Tryz.prog.leadsTo = LT0 := by kernel_rfl
def LT1 : List (List FuncId) := [[194], [102], [195, 196, 197, 199, 198, 102], [172, 200], [201, 65], [203], [], [], [204, 204], [205], [107, 62], [54, 102], [], [], [206], [], [], [206, 207, 158], [208, 209], [210], [212, 58, 211], [213, 58, 211], [68, 211], [68, 68, 211], [68, 68, 211], [214, 68, 211, 211], [214, 68, 211, 211], [215, 216, 68], [210, 217, 211], [158, 202, 211], [215, 218, 211], [210, 220, 219], [215, 222, 221], [224, 223, 216, 158, 220, 219], [215, 206, 225, 226, 221, 220, 219], [215, 157, 220, 219], [227, 228, 220, 219], [227, 229, 221], [227, 231, 221], [224, 223, 216, 158, 225, 232, 219, 233, 219], [210, 157, 234], [235], [227, 237, 236], [235, 158, 234, 216, 158, 238, 219], [239, 210, 233, 219], [239, 224, 236], [235, 240, 234], [210, 232, 219], [210, 157, 241, 236], [242, 158], [68, 158, 206, 158], [158, 216, 158], [206, 243, 244, 245, 211, 211], [206, 243, 244, 245, 245, 211, 211], [206, 246, 211], [247, 248, 210, 157, 250, 249, 157, 251, 157, 157, 179, 179, 252, 233, 219, 233, 219, 253], [], [206], [244, 244], [166, 254], [161, 71, 255, 256], [259, 258], [], [261, 261, 260, 262, 263, 260, 264, 163, 264, 163], [265, 266], [], [36, 56], [203], [267, 160], [268], [259, 269], [], [270], [174], [271], [261, 261, 260], [177], [105, 168], [77, 272], [], [273, 174], [274], [], [181, 275, 172, 172], [276], [181], [277], [], [278], [], [279], [], [], [], [], [], [280, 93, 281, 282], [195, 280, 186, 283, 198, 102], [284], []]
theorem lt1 : ((Tryz.prog.funcs.toList.drop 100).take 100).map Tryz.prog.leadsTo = LT1 := by kernel_rfl
def LT2 : List (List FuncId) := [[174], [67, 202], [244, 285, 218, 215, 257, 217, 218, 239, 257, 217, 286, 287, 286, 202, 202, 202, 202, 242, 202, 158, 216, 202, 208, 289, 288, 247, 290, 290, 215, 230], [291], [107, 107], [292], [], [], [293, 158], [294, 288], [158], [], [68], [68], [295], [158, 157], [297], [163], [298, 172], [206], [299, 301, 300, 163, 303, 217, 302], [], [216, 68], [304], [215], [206], [], [210, 157, 157], [306], [230], [271, 307], [230], [299, 308, 179, 302], [299, 299, 309, 302], [252, 206], [158, 157], [310, 225, 223, 233, 219, 220, 219], [311], [271, 271, 271, 307, 179, 302], [240], [], [251], [68], [312, 206, 206], [206], [313, 65, 315, 314], [316, 58, 317, 288, 207, 158, 207, 158, 217], [210, 157, 157], [318, 249, 319, 249, 320, 249, 321, 206, 322, 249, 323, 249, 321, 206, 324, 249, 290, 211, 290, 211, 325], [206], [326, 327], [328], [271, 307], [329, 251, 206, 232, 219, 179, 232, 219, 329, 228, 232, 219, 157, 157, 290, 232, 219, 321, 328, 290, 206, 330, 330, 232, 219], [331, 333, 332], [], [257, 217], [], [337, 338, 339, 340, 341, 342, 343, 344, 258, 258], [345, 346], [], [347, 347], [261, 261], [348, 348], [261], [271, 349, 350], [351], [166, 254], [], [352, 353, 354, 355, 356, 357, 358, 359, 360, 269, 269], [], [361, 362, 363], [78, 364], [], [], [183], [], [], [], [], [], [], [180], [], [], [287, 218], [202], [365, 271, 179], [206], [202], [366, 366, 367, 366, 366, 367], [368, 369, 65, 370], [], [371, 372], [158], [296], [215, 216, 296], [], [202], [172, 374]]
theorem lt2 : ((Tryz.prog.funcs.toList.drop 200).take 100).map Tryz.prog.leadsTo = LT2 := by kernel_rfl
def LT3 : List (List FuncId) := [[375, 376], [377], [361], [], [305], [179, 378, 305], [], [379, 163], [251], [179, 179, 380, 217], [], [381, 382], [383, 65, 223], [158], [384], [], [244, 246], [244, 246], [385], [385], [385], [], [385], [385], [386, 387, 389, 388, 330, 391, 388], [290, 319, 206, 330, 206, 328, 318, 220, 219], [186, 392], [366, 393], [393], [287, 206], [326, 395, 394], [396, 397, 398, 399, 400, 401, 402, 403, 403, 404, 405, 406, 407, 407, 408, 409, 410, 411, 412, 413, 414, 415, 416, 417, 417, 417, 418, 419, 420, 421, 422, 423, 424, 425, 426, 427, 428, 429, 430, 431, 432, 433, 434, 435], [436], [335, 334, 336], [437], [440], [441, 179, 56, 441, 441], [], [442, 442], [443, 444], [445, 445, 445, 446], [], [], [], [], [], [], [], [], [447, 447, 211, 447, 448, 448, 448, 449, 448, 228, 349], [], [271, 450], [358], [451, 451], [443, 444], [452, 452, 452, 453], [], [358, 358, 358], [347, 347], [358, 358], [358, 358, 358, 358], [454], [455], [326, 457, 458, 459], [], [251, 217], [], [261, 460, 261], [36, 111, 172, 461, 103, 103, 216], [67, 158], [193, 462, 462], [216, 209], [373, 288], [216, 158], [271], [463], [259, 464], [], [], [], [259, 465], [], [], [67, 215], [], [386, 466, 467, 388], [326], [], [468], [390], [469, 470, 470], [390], [], [471, 193], [472, 473], [474, 474, 366, 460, 475, 476, 477, 478], [], [441], [], []]
theorem lt3 : ((Tryz.prog.funcs.toList.drop 300).take 100).map Tryz.prog.leadsTo = LT3 := by kernel_rfl
def LT4 : List (List FuncId) := [[441, 479], [480, 481, 479], [482, 481, 483, 479], [484, 211, 211], [484, 211], [484, 484, 211], [484, 484, 211], [485, 211], [486, 487, 484], [482, 217, 211], [479, 488, 211], [486, 488, 211, 211], [482, 220, 489], [486, 487, 484], [491, 492, 490, 220, 489], [486, 441, 220, 489], [486, 441, 220, 489], [493, 228, 220, 489, 379, 163], [491, 494, 490, 233, 489], [482, 441, 495], [496], [493, 497, 498, 490, 220, 489], [496, 479, 495, 487, 479, 238, 489], [482, 499, 489], [491, 500, 499, 489, 220, 489], [496, 240, 495], [482, 232, 489], [493, 500, 232, 489, 220, 489], [484, 479, 479], [501, 479], [479, 487, 479], [502, 441, 503, 438, 440, 504, 211, 211], [502, 502, 441, 503, 438, 440, 440, 504, 504, 211, 211], [441, 505, 484, 211, 211, 481, 479, 479, 479, 217, 211], [482, 506, 507, 250, 508, 507, 290, 211, 290, 211, 509, 321, 441, 441, 510, 508], [], [], [438, 439], [], [511, 512, 513, 514, 484, 334, 334, 501, 334, 479, 515, 334, 480, 517, 516, 482, 483, 518, 516, 519, 479, 521, 520, 519, 522, 523, 524], [], [], [], [259], [], [446], [525, 525, 525], [526, 527], [447], [526, 527], [528, 529], [358, 358], [453], [530, 530, 530], [362], [456], [], [], [531, 532], [163], [533], [174], [370], [], [534, 535, 536, 537, 538, 539, 540, 541, 464, 464], [542, 543, 544, 545, 546, 547, 548, 549, 465, 465], [550, 551, 470, 552, 554], [], [], [], [366, 366, 555, 393], [], [556], [557, 558, 559, 560], [561], [562], [311, 563, 563, 563, 563, 563, 564, 477, 565, 565, 565, 478, 477, 478], [561], [], [438, 438], [479, 566], [441, 567], [479], [487], [479, 441], [484, 486, 487], [496], [568], [438, 569, 570, 486, 257, 217, 570, 571, 572, 573, 287, 573, 488, 488, 488, 488, 484, 488, 488, 479, 487, 488, 480, 481, 488, 482, 441, 290, 290, 486, 574, 172], [441], [575], [486], [487, 479], [482, 441], [487, 479, 232, 489], [379, 163, 441], [479, 441], [441], [], [240, 233]]
theorem lt4 : ((Tryz.prog.funcs.toList.drop 400).take 100).map Tryz.prog.leadsTo = LT4 := by kernel_rfl
def LT5 : List (List FuncId) := [[497, 576, 490], [484, 441], [], [577, 441, 441], [578, 479], [], [580, 251, 580, 441, 580, 441, 232, 489, 580, 232, 489, 580, 580, 232, 489, 580, 507, 507, 581, 441, 251, 582, 582, 583, 233, 489], [441], [441], [290, 319, 441, 330, 441, 328, 318, 508, 220, 489], [318, 319, 320, 322, 323, 324], [], [584], [586], [334, 589], [568], [590], [334], [334], [], [591], [], [592], [521, 520, 512, 593, 516], [594], [], [], [595, 596, 526, 597], [449, 598, 449, 599, 449, 447, 601, 600, 447, 602], [], [358], [], [531], [], [], [603, 603], [443, 444], [604, 604, 604, 605], [], [], [], [], [], [606, 606], [607, 608], [609, 609, 609, 610], [], [], [], [], [366, 366, 611, 393, 366, 366, 367, 366, 366, 612, 393, 366, 366, 612, 393], [327, 550], [553], [366, 366, 613, 393, 393, 469, 327, 550, 550], [553], [614, 471], [615, 615, 615, 615, 615, 615, 616], [617], [617], [617, 475, 618], [617, 475, 618], [619], [620], [621], [561, 622], [], [], [], [], [287, 570], [623, 172], [240, 217], [], [488], [217], [179, 378], [], [36, 312, 624], [579], [625], [287, 441], [290, 232, 489, 330, 330, 441, 232, 489], [441], [179, 179, 379, 163, 233, 489], [334, 512, 585, 585], [626], [587, 334, 588], [627], [], [511, 486, 587, 515, 514, 588], [481, 588], [], [511, 486, 587, 521], [334], [511, 441], [], [], [628], [326, 395], [447, 447, 447, 447]]
theorem lt5 : ((Tryz.prog.funcs.toList.drop 500).take 100).map Tryz.prog.leadsTo = LT5 := by kernel_rfl
def LT6 : List (List FuncId) := [[449], [528], [365, 449, 629, 600, 449, 630, 447, 631, 600, 447, 447, 632, 600, 447], [], [605], [633, 633, 633], [], [259], [], [610], [634, 634, 634], [635, 635], [635, 471], [460, 471, 367, 555, 367, 555, 612, 471], [635], [], [615, 615, 615, 615, 615, 615], [], [], [], [636, 637, 638, 639], [], [640], [488], [462], [], [], [], [], [528], [172, 641], [449, 528], [528, 449, 528], [], [], [], [], [346, 642, 643], [], [644, 645], [], [458], [], [], [], [646, 647], [], [], [], [], [], [], [], [], [], [], [], [], [], [], [], [], [], [], [], [], [105], [29, 105, 64, 105], [], [163], [], [], [], [], [], [], [], [], [], [], [], [], [], [], [618, 618, 618]]
theorem lt6 : (Tryz.prog.funcs.toList.drop 600).map Tryz.prog.leadsTo = LT6 := by kernel_rfl
def LT : List (List FuncId) := LT0 ++ (LT1 ++ (LT2 ++ (LT3 ++ (LT4 ++ (LT5 ++ (LT6))))))
theorem lt_all : Tryz.prog.funcs.toList.map Tryz.prog.leadsTo = LT := by
  unfold LT
  rw [← lt0, ← lt1, ← lt2, ← lt3, ← lt4, ← lt5, ← lt6]
  simp only [← List.map_append]
  have h0 : Tryz.prog.funcs.toList = Tryz.prog.funcs.toList.drop 0 := rfl
  refine congrArg _ ?_
  rw [cutL _ 500 100, cutL _ 400 100, cutL _ 300 100, cutL _ 200 100, cutL _ 100 100, cutL _ 0 100]
  rfl
noncomputable def LA : List FuncId := [3, 4, 11, 13, 21, 19, 16, 32, 50, 15, 20, 33, 12, 31, 44, 36, 54, 84, 85, 55, 86, 180, 273, 174, 271, 361, 454, 362, 455, 456, 363, 326, 186, 277, 392, 457, 458, 531, 532, 459, 163, 261, 347, 260, 262, 263, 348, 264, 181, 274, 87, 88, 89, 90, 92, 93, 183, 275, 172, 270, 91, 182, 94, 95, 96, 97, 98, 185, 184, 276, 99, 187, 188, 278, 189, 191, 190, 279, 192, 193, 102, 195, 196, 280, 281, 282, 197, 283, 198, 284, 199, 100, 194, 101, 58, 106, 9, 7, 27, 42, 28, 29, 63, 111, 64, 45, 66, 67, 113, 114, 206, 115, 116, 117, 207, 158, 244, 118, 208, 293, 371, 216, 297, 209, 294, 288, 372, 373, 119, 210, 120, 212, 68, 157, 211, 121, 213, 122, 123, 124, 125, 214, 295, 296, 215, 126, 127, 128, 217, 129, 202, 285, 287, 365, 251, 328, 393, 471, 179, 218, 298, 257, 239, 240, 286, 242, 289, 247, 290, 366, 367, 460, 533, 230, 307, 379, 130, 131, 220, 299, 374, 301, 377, 300, 375, 463, 376, 259, 345, 346, 464, 534, 535, 603, 536, 443, 444, 537, 604, 605, 633, 538, 539, 540, 541, 303, 302, 219, 132, 222, 221, 133, 224, 223, 304, 305, 378, 134, 225, 226, 135, 136, 227, 228, 306, 137, 229, 138, 231, 139, 232, 308, 233, 309, 380, 465, 542, 543, 606, 544, 607, 608, 545, 609, 610, 634, 546, 547, 548, 549, 140, 234, 252, 141, 235, 142, 237, 311, 381, 382, 236, 310, 143, 238, 144, 145, 146, 147, 148, 241, 149, 150, 151, 152, 243, 312, 383, 65, 112, 245, 313, 315, 314, 384, 153, 154, 246, 316, 317, 155, 248, 318, 385, 386, 466, 550, 611, 635, 612, 551, 327, 470, 555, 614, 552, 553, 613, 469, 554, 467, 388, 468, 249, 319, 320, 321, 322, 323, 324, 387, 389, 390, 330, 395, 474, 561, 619, 475, 562, 620, 636, 637, 642, 643, 638, 639, 644, 645, 646, 647, 476, 563, 621, 564, 622, 640, 477, 565, 478, 394, 472, 556, 615, 616, 473, 557, 617, 558, 559, 618, 560, 391, 325, 250, 253, 329, 156, 46, 69, 159, 166, 56, 103, 200, 104, 201, 254, 331, 396, 397, 441, 398, 399, 400, 479, 438, 401, 480, 566, 481, 567, 402, 482, 483, 487, 568, 403, 484, 404, 405, 406, 407, 485, 486, 496, 408, 409, 410, 488, 569, 570, 623, 571, 572, 573, 574, 411, 412, 489, 413, 414, 491, 492, 490, 575, 415, 416, 417, 493, 418, 494, 419, 495, 420, 421, 497, 498, 422, 423, 499, 424, 500, 576, 425, 426, 427, 428, 429, 501, 430, 431, 502, 503, 577, 624, 462, 370, 440, 504, 578, 579, 625, 432, 433, 505, 434, 506, 580, 507, 581, 582, 583, 508, 509, 510, 435, 333, 335, 334, 437, 439, 511, 512, 584, 585, 626, 513, 586, 587, 627, 588, 514, 589, 515, 517, 516, 590, 518, 519, 521, 520, 591, 522, 592, 523, 593, 524, 594, 336, 332, 436, 160, 161, 258, 337, 338, 442, 339, 340, 445, 446, 525, 341, 342, 343, 344, 71, 162, 255, 256, 70, 83, 72, 164, 265, 349, 447, 526, 527, 595, 596, 597, 628, 448, 449, 350, 266, 351, 450, 528, 598, 599, 601, 600, 602, 629, 630, 641, 631, 632, 529, 73, 165, 74, 167, 203, 291, 368, 461, 369, 168, 267, 76, 171, 75, 169, 268, 170, 269, 352, 358, 353, 451, 354, 355, 452, 453, 530, 356, 357, 359, 360, 47, 77, 173, 175, 78, 49, 79, 80, 81, 176, 177, 105, 82, 178, 272, 364, 48, 14, 17, 34, 51, 52, 53, 62, 107, 108, 204, 109, 205, 292, 110, 18, 35, 22, 37, 57, 59, 60, 5, 23, 38, 61, 39, 8, 6, 24, 25, 26, 40, 41, 10, 30, 43]
theorem fuel : 1 + (LT.map fun l => l.length + 1).sum = 2313 := by kernel_rfl
theorem via : viaM (fun f => (LT[f]?).getD []) 2313 [3] [] 0 = LA := by kernel_rfl
theorem clo : Tryz.prog.closure 3 = LA := closure_of lt_all fuel via
theorem j9 : (Rows.checksPartsRow.inPlace == Tryz.prog.inPlace 3) = true := by
  have h : Tryz.prog.inPlace 3 = Rows.checksPartsRow.inPlace := by
    unfold Program.inPlace
    rw [clo]
    kernel_rfl
  rw [h]; exact beq_self_eq_true _
theorem unf : Tryz.prog.unfollowed 3 = true := by
  unfold Program.unfollowed
  rw [clo]
  kernel_rfl
theorem j10 : (Rows.checksPartsRow.unfollowed == Tryz.prog.unfollowed 3) = true := by rw [unf]; rfl
theorem j11 : (Rows.checksPartsRow.recurses == Tryz.prog.recurses 3) = true := by
  unfold Program.recurses
  rw [unf]; rfl
def LA0 : List FuncId := [3, 4, 11, 13, 21, 19, 16, 32, 50, 15, 20, 33, 12, 31, 44, 36, 54, 84, 85, 55, 86, 180, 273, 174, 271, 361, 454, 362, 455, 456, 363, 326, 186, 277, 392, 457, 458, 531, 532, 459, 163, 261, 347, 260, 262, 263, 348, 264, 181, 274, 87, 88, 89, 90, 92, 93, 183, 275, 172, 270, 91, 182, 94, 95, 96, 97, 98, 185, 184, 276, 99, 187, 188, 278, 189, 191, 190, 279, 192, 193, 102, 195, 196, 280, 281, 282, 197, 283, 198, 284, 199, 100, 194, 101, 58, 106, 9, 7, 27, 42]
def LA1 : List FuncId := [28, 29, 63, 111, 64, 45, 66, 67, 113, 114, 206, 115, 116, 117, 207, 158, 244, 118, 208, 293, 371, 216, 297, 209, 294, 288, 372, 373, 119, 210, 120, 212, 68, 157, 211, 121, 213, 122, 123, 124, 125, 214, 295, 296, 215, 126, 127, 128, 217, 129, 202, 285, 287, 365, 251, 328, 393, 471, 179, 218, 298, 257, 239, 240, 286, 242, 289, 247, 290, 366, 367, 460, 533, 230, 307, 379, 130, 131, 220, 299, 374, 301, 377, 300, 375, 463, 376, 259, 345, 346, 464, 534, 535, 603, 536, 443, 444, 537, 604, 605]
def LA2 : List FuncId := [633, 538, 539, 540, 541, 303, 302, 219, 132, 222, 221, 133, 224, 223, 304, 305, 378, 134, 225, 226, 135, 136, 227, 228, 306, 137, 229, 138, 231, 139, 232, 308, 233, 309, 380, 465, 542, 543, 606, 544, 607, 608, 545, 609, 610, 634, 546, 547, 548, 549, 140, 234, 252, 141, 235, 142, 237, 311, 381, 382, 236, 310, 143, 238, 144, 145, 146, 147, 148, 241, 149, 150, 151, 152, 243, 312, 383, 65, 112, 245, 313, 315, 314, 384, 153, 154, 246, 316, 317, 155, 248, 318, 385, 386, 466, 550, 611, 635, 612, 551]
def LA3 : List FuncId := [327, 470, 555, 614, 552, 553, 613, 469, 554, 467, 388, 468, 249, 319, 320, 321, 322, 323, 324, 387, 389, 390, 330, 395, 474, 561, 619, 475, 562, 620, 636, 637, 642, 643, 638, 639, 644, 645, 646, 647, 476, 563, 621, 564, 622, 640, 477, 565, 478, 394, 472, 556, 615, 616, 473, 557, 617, 558, 559, 618, 560, 391, 325, 250, 253, 329, 156, 46, 69, 159, 166, 56, 103, 200, 104, 201, 254, 331, 396, 397, 441, 398, 399, 400, 479, 438, 401, 480, 566, 481, 567, 402, 482, 483, 487, 568, 403, 484, 404, 405]
def LA4 : List FuncId := [406, 407, 485, 486, 496, 408, 409, 410, 488, 569, 570, 623, 571, 572, 573, 574, 411, 412, 489, 413, 414, 491, 492, 490, 575, 415, 416, 417, 493, 418, 494, 419, 495, 420, 421, 497, 498, 422, 423, 499, 424, 500, 576, 425, 426, 427, 428, 429, 501, 430, 431, 502, 503, 577, 624, 462, 370, 440, 504, 578, 579, 625, 432, 433, 505, 434, 506, 580, 507, 581, 582, 583, 508, 509, 510, 435, 333, 335, 334, 437, 439, 511, 512, 584, 585, 626, 513, 586, 587, 627, 588, 514, 589, 515, 517, 516, 590, 518, 519, 521]
def LA5 : List FuncId := [520, 591, 522, 592, 523, 593, 524, 594, 336, 332, 436, 160, 161, 258, 337, 338, 442, 339, 340, 445, 446, 525, 341, 342, 343, 344, 71, 162, 255, 256, 70, 83, 72, 164, 265, 349, 447, 526, 527, 595, 596, 597, 628, 448, 449, 350, 266, 351, 450, 528, 598, 599, 601, 600, 602, 629, 630, 641, 631, 632, 529, 73, 165, 74, 167, 203, 291, 368, 461, 369, 168, 267, 76, 171, 75, 169, 268, 170, 269, 352, 358, 353, 451, 354, 355, 452, 453, 530, 356, 357, 359, 360, 47, 77, 173, 175, 78, 49, 79, 80]
def LA6 : List FuncId := [81, 176, 177, 105, 82, 178, 272, 364, 48, 14, 17, 34, 51, 52, 53, 62, 107, 108, 204, 109, 205, 292, 110, 18, 35, 22, 37, 57, 59, 60, 5, 23, 38, 61, 39, 8, 6, 24, 25, 26, 40, 41, 10, 30, 43]
theorem la : LA = LA0 ++ (LA1 ++ (LA2 ++ (LA3 ++ (LA4 ++ (LA5 ++ (LA6)))))) := by kernel_rfl
theorem g0 : (LA0.flatMap fun g => ((Tryz.prog.funcs[g]?).bind (·.body)).elim [] Code.globalsNamed) = [] := by kernel_rfl
theorem e0e : (LA0.filterMap fun g => (Tryz.prog.funcs[g]?).bind fun fn => if fn.body.isNone then entryReads.lookup fn.name else none) = [] := by kernel_rfl
theorem g1 : (LA1.flatMap fun g => ((Tryz.prog.funcs[g]?).bind (·.body)).elim [] Code.globalsNamed) = [] := by kernel_rfl
theorem e1e : (LA1.filterMap fun g => (Tryz.prog.funcs[g]?).bind fun fn => if fn.body.isNone then entryReads.lookup fn.name else none) = [] := by kernel_rfl
theorem g2 : (LA2.flatMap fun g => ((Tryz.prog.funcs[g]?).bind (·.body)).elim [] Code.globalsNamed) = [] := by kernel_rfl
theorem e2e : (LA2.filterMap fun g => (Tryz.prog.funcs[g]?).bind fun fn => if fn.body.isNone then entryReads.lookup fn.name else none) = [] := by kernel_rfl
theorem g3 : (LA3.flatMap fun g => ((Tryz.prog.funcs[g]?).bind (·.body)).elim [] Code.globalsNamed) = [4, 5, 6, 2, 3] := by kernel_rfl
theorem e3e : (LA3.filterMap fun g => (Tryz.prog.funcs[g]?).bind fun fn => if fn.body.isNone then entryReads.lookup fn.name else none) = [] := by kernel_rfl
theorem g4 : (LA4.flatMap fun g => ((Tryz.prog.funcs[g]?).bind (·.body)).elim [] Code.globalsNamed) = [] := by kernel_rfl
theorem e4e : (LA4.filterMap fun g => (Tryz.prog.funcs[g]?).bind fun fn => if fn.body.isNone then entryReads.lookup fn.name else none) = [] := by kernel_rfl
theorem g5 : (LA5.flatMap fun g => ((Tryz.prog.funcs[g]?).bind (·.body)).elim [] Code.globalsNamed) = [1, 1] := by kernel_rfl
theorem e5e : (LA5.filterMap fun g => (Tryz.prog.funcs[g]?).bind fun fn => if fn.body.isNone then entryReads.lookup fn.name else none) = [] := by kernel_rfl
theorem g6 : (LA6.flatMap fun g => ((Tryz.prog.funcs[g]?).bind (·.body)).elim [] Code.globalsNamed) = [] := by kernel_rfl
theorem e6e : (LA6.filterMap fun g => (Tryz.prog.funcs[g]?).bind fun fn => if fn.body.isNone then entryReads.lookup fn.name else none) = [] := by kernel_rfl
theorem j12 : (Rows.checksPartsRow.named == Tryz.prog.varsNamed 3) = true := by
  have h : Tryz.prog.varsNamed 3 = Rows.checksPartsRow.named := by
    unfold Program.varsNamed
    rw [clo, la]
    simp only [List.flatMap_append, List.filterMap_append]
    rw [g0, e0e, g1, e1e, g2, e2e, g3, e3e, g4, e4e, g5, e5e, g6, e6e]
    kernel_rfl
  rw [h]; exact beq_self_eq_true _
theorem n0 : ((Tryz.prog.funcs.toList.drop 0).take 100).any Func.goes = false := by kernel_rfl
theorem n1 : ((Tryz.prog.funcs.toList.drop 100).take 100).any Func.goes = false := by kernel_rfl
theorem n2 : ((Tryz.prog.funcs.toList.drop 200).take 100).any Func.goes = false := by kernel_rfl
theorem n3 : ((Tryz.prog.funcs.toList.drop 300).take 100).any Func.goes = false := by kernel_rfl
theorem n4 : ((Tryz.prog.funcs.toList.drop 400).take 100).any Func.goes = false := by kernel_rfl
theorem n5 : ((Tryz.prog.funcs.toList.drop 500).take 100).any Func.goes = false := by kernel_rfl
theorem n6 : (Tryz.prog.funcs.toList.drop 600).any Func.goes = false := by kernel_rfl
theorem noGo : Tryz.prog.funcs.toList.any Func.goes = false := by
  have h0 : Tryz.prog.funcs.toList = ((Tryz.prog.funcs.toList.drop 0).take 100) ++ (((Tryz.prog.funcs.toList.drop 100).take 100) ++ (((Tryz.prog.funcs.toList.drop 200).take 100) ++ (((Tryz.prog.funcs.toList.drop 300).take 100) ++ (((Tryz.prog.funcs.toList.drop 400).take 100) ++ (((Tryz.prog.funcs.toList.drop 500).take 100) ++ (Tryz.prog.funcs.toList.drop 600)))))) := by
    rw [cutL _ 500 100, cutL _ 400 100, cutL _ 300 100, cutL _ 200 100, cutL _ 100 100, cutL _ 0 100]
    rfl
  rw [h0]
  simp only [List.any_append, n0, n1, n2, n3, n4, n5, n6, Bool.or_false]
theorem c1 : Tryz.prog.funcNamed "foregone/foregonelaw25.ChecksParts" = some 3 := by kernel_rfl
theorem hfunc : Rows.checksPartsRow.func = "foregone/foregonelaw25.ChecksParts" := rfl
theorem hstart : Rows.checksPartsRow.start = .entering := rfl
theorem goes_of {P : Program} {f : FuncId} (h : P.funcs.toList.any Func.goes = false) : P.goes f = false := by
  have h1 : (P.closure f).any (fun g => (P.funcs[g]?).any Func.goes) = false := List.any_eq_false.2 fun g _ => by rw [any_none h g]; simp
  have h2 : P.funcs.any Func.goes = false := by rw [← Array.any_toList]; exact h
  unfold Program.goes
  rw [h1, h2]; simp
theorem from_of {P : Program} {n : String} {f : FuncId} (hn : P.funcNamed n = some f) (h : P.goes f = false) : P.goesFrom n = false := by
  unfold Program.goesFrom
  rw [hn]; exact h
theorem by_of {P : Program} {c : OpenClaim} {n : String} (hc : c.func = n) (hs : c.start = .entering) (h : P.goesFrom n = false) : false = c.goesBy P := by
  unfold OpenClaim.goesBy Program.goesAt
  rw [hc, hs, h]; rfl
theorem c5 : false = Rows.checksPartsRow.goesBy Tryz.prog := by_of hfunc hstart (from_of c1 (goes_of noGo))
end Go.Proofs.YtjbkanbdnoepmaaGreatDoor
