/- The functions that a call of FleetNil can come to by plain names: the list, reckoned in parts, and what the row's cells say of it. No conditions. -/
import Derived.Test.YtplboahkpmiofaaGreatDoorRows
import Derived.JoinedOf
import Derived.KernelRfl
import GoSem.ClaimGoes
namespace Go.X
open Go
/-- The list of functions come to, with a number whose bits say which were seen. -/
noncomputable def viaM (lt : FuncId → List FuncId) (n : Nat) : List FuncId → List FuncId → Nat → List FuncId := Nat.rec (motive := fun _ => List FuncId → List FuncId → Nat → List FuncId) (fun _ seen _ => seen.reverse)
  (fun _ ih todo seen m => List.rec (motive := fun _ => List FuncId) seen.reverse (fun f todo _ => Bool.rec (motive := fun _ => List FuncId) (ih (lt f ++ todo) (f :: seen) (m ||| 2 ^ f)) (ih todo seen m) (m.testBit f)) todo) n
theorem viaM_eq {P : Program} {lt : FuncId → List FuncId} (hl : ∀ f, lt f = (P.funcs[f]?).elim [] P.leadsTo) : ∀ (n : Nat) (todo seen : List FuncId) (m : Nat), (∀ f, m.testBit f = seen.contains f) → viaM lt n todo seen m = P.closureVia n todo seen
  | 0, todo, seen, m, _ => by cases todo <;> rfl
  | n + 1, [], seen, m, _ => rfl
  | n + 1, f :: todo, seen, m, h => by
    have e : viaM lt (n + 1) (f :: todo) seen m = Bool.rec (motive := fun _ => List FuncId) (viaM lt n (lt f ++ todo) (f :: seen) (m ||| 2 ^ f)) (viaM lt n todo seen m) (m.testBit f) := rfl
    rw [e, h f]
    cases hc : seen.contains f with
    | true =>
      have : P.closureVia (n + 1) (f :: todo) seen = P.closureVia n todo seen := by simp only [Program.closureVia, hc, if_true]
      rw [this]
      exact viaM_eq hl n todo seen m h
    | false =>
      have : P.closureVia (n + 1) (f :: todo) seen = P.closureVia n ((P.funcs[f]?).elim [] P.leadsTo ++ todo) (f :: seen) := by simp only [Program.closureVia, hc, Bool.false_eq_true, if_false]
      rw [this, ← hl f]
      refine viaM_eq hl n _ _ _ fun g => ?_
      rw [Nat.testBit_or, Nat.testBit_two_pow, h g, List.contains_cons]
      by_cases hg : f = g
      · subst hg; simp
      · have h1 : (g == f) = false := by simp; exact fun e => hg e.symm
        simp [hg, h1]
theorem cutL {α : Type} (l : List α) (a b : Nat) : (l.drop a).take b ++ l.drop (a + b) = l.drop a := by
  have := List.take_append_drop b (l.drop a)
  rwa [List.drop_drop] at this
theorem lead_of {P : Program} {LT : List (List FuncId)} (h : P.funcs.toList.map P.leadsTo = LT) (f : FuncId) : (LT[f]?).getD [] = (P.funcs[f]?).elim [] P.leadsTo := by
  rw [← h, List.getElem?_map]
  simp only [Array.getElem?_toList]
  cases P.funcs[f]? <;> rfl
theorem closure_of {P : Program} {LT : List (List FuncId)} (h : P.funcs.toList.map P.leadsTo = LT) {f : FuncId} {n : Nat} (hn : 1 + (LT.map fun l => l.length + 1).sum = n) {L : List FuncId} (hL : viaM (fun f => (LT[f]?).getD []) n [f] [] 0 = L) : P.closure f = L := by
  have h1 : (P.funcs.toList.map fun g => (P.leadsTo g).length + 1) = LT.map fun l => l.length + 1 := by rw [← h, List.map_map]; rfl
  unfold Program.closure
  rw [h1, hn, ← hL]
  exact (viaM_eq (lead_of h) n [f] [] 0 (fun g => by simp)).symm
theorem any_none {P : Program} {p : Func → Bool} (h : P.funcs.toList.any p = false) (f : FuncId) : (P.funcs[f]?).any p = false := by
  cases hf : P.funcs[f]? with
  | none => rfl
  | some fn =>
    have hm : fn ∈ P.funcs.toList := by
      have := Array.mem_of_getElem? hf
      simpa using this
    have := List.any_eq_false.1 h fn hm
    simpa using this
end Go.X
namespace Go.Proofs.YtplboahkpmiofaaGreatDoor
open Go Go.X
set_option maxRecDepth 1000000
def LT0 : List (List FuncId) := [[], [], [1], [4, 5, 6, 7, 8, 9, 10, 11, 12, 14, 13], [16, 17, 15, 12, 9, 18, 5, 11, 19, 8, 7, 18, 18, 18, 18, 9, 12, 20, 8, 14, 21, 7, 12, 20, 8, 8, 8], [22, 23, 24, 27, 26], [22, 29], [22, 30, 31, 9, 8, 9], [22, 32], [22, 33, 34], [22, 38], [22, 31], [22, 29, 39, 40, 41, 42], [43], [22, 44, 45], [46, 47, 48, 49, 50, 26], [53, 53, 52, 53, 53, 52, 53, 52], [54], [55], [], [43], [], [], [56], [25], [57], [58], [28], [59, 60], [45], [], [61, 62, 35, 63, 64], [65, 38, 66, 26], [67], [35, 36, 37], [68, 69], [70], [], [44, 71, 72, 73, 74, 75, 76], [78, 77], [79, 80], [], [40], [81], [], [], [82, 83], [84], [85, 86], [], [28, 51], [28, 87], [], [18], [88], [], [], [89, 90, 91], [], [92, 93, 94, 95], [], [], [], [72, 96], [], [97, 98, 99, 100, 101, 102, 103, 104, 105], [60], [], [], [], [], [], [], [], [], [], [], [106, 107, 108, 109, 110, 111, 112, 113, 77, 77], [114, 115], [], [117, 117, 116, 118, 119, 116, 120, 80, 120, 80], [121, 121, 122, 123, 124, 124], [125, 126], [127, 128, 129, 127, 130, 131, 127, 133, 132, 135, 136, 127, 137, 138, 127, 139, 140, 141, 143, 142], [95], [145, 146], [39, 40, 41, 147], [150], [151, 152], [153], [154], [156, 157, 158, 159], [160, 160], [161, 163, 45, 162], [57, 164, 165], [92, 166, 167], [67], [168, 35, 60, 169, 60, 51], [168, 60, 170, 170, 171], [172, 174, 173, 51]]
theorem lt0 : ((Tryz.prog.funcs.toList.drop 0).take 100).map Tryz.prog.leadsTo = LT0 := by kernel_rfl
def LT1 : List (List FuncId) := [[172], [60], [168, 60, 171], [168, 60, 49, 175, 76, 176, 173, 51, 28, 51], [60, 49], [60, 168, 60, 177, 178, 87], [], [179, 179], [180, 181], [182, 182, 182, 183], [], [], [], [], [], [], [], [184, 184], [117, 117], [185, 185], [117], [], [186, 186], [187], [121, 81], [], [], [188, 189], [], [], [], [], [190], [134], [25, 191], [], [], [], [], [127, 193, 192], [194, 195, 196, 197, 199, 198, 200, 44, 144, 126], [201], [202], [144], [203, 204, 205, 207, 206, 144], [46, 208], [209, 211, 210], [148, 149], [], [80], [94], [], [151, 215, 216, 217, 151], [90], [155], [], [194, 218], [], [219, 220], [80], [115], [23, 221], [89], [222], [223, 223, 224, 223, 225, 225, 225, 226, 225, 227, 164], [], [160, 228, 230, 229], [231], [60], [145, 232, 233, 232], [], [], [60, 71, 234], [74, 235], [], [], [], [28], [73, 236], [], [78], [], [183], [237, 237, 237], [], [], [121, 121], [238], [239, 25], [240], [], [189, 241, 23, 23], [242], [189], [243], [], [244], [], [245], []]
theorem lt1 : ((Tryz.prog.funcs.toList.drop 100).take 100).map Tryz.prog.leadsTo = LT1 := by kernel_rfl
def LT2 : List (List FuncId) := [[], [], [], [], [246, 134, 247, 248], [203, 246, 194, 249, 206, 144], [250], [], [46, 251, 252], [253, 254, 255, 256, 257, 258, 259, 260, 260, 261, 262, 263, 264, 264, 265, 266, 267, 268, 269, 270, 271, 272, 273, 274, 274, 274, 275, 276, 277, 278, 279, 280, 281, 282, 283, 284, 285, 286, 287, 288, 289, 290, 291, 292], [293], [213, 212, 214], [294], [297], [298, 45, 208, 298, 298], [151, 151, 151], [151, 299], [215], [], [], [219], [57], [300], [301, 302], [], [223], [301, 302], [303], [230, 230, 305, 306, 304], [160], [307], [], [308], [309, 86], [], [310], [68], [], [], [], [], [191], [], [], [], [], [], [], [188], [], [], [23, 311], [313, 312], [], [298], [], [], [298, 316], [317, 318, 316], [319, 318, 320, 316], [321, 224, 224], [321, 224], [321, 321, 224], [321, 321, 224], [322, 224], [323, 324, 321], [319, 149, 224], [316, 325, 224], [323, 325, 224, 224], [319, 327, 326], [323, 324, 321], [329, 330, 328, 327, 326], [323, 298, 327, 326], [323, 298, 327, 326], [331, 227, 327, 326, 332, 80], [329, 333, 328, 334, 326], [319, 298, 335], [336], [331, 337, 338, 328, 327, 326], [336, 316, 335, 324, 316, 339, 326], [319, 340, 326], [329, 341, 340, 326, 327, 326], [336, 342, 335], [319, 93, 326], [331, 341, 93, 326, 327, 326], [321, 316, 316], [343, 316], [316, 324, 316], [344, 298, 345, 295, 297, 346, 224, 224], [344, 344, 298, 345, 295, 297, 297, 346, 346, 224, 224], [298, 347, 321, 224, 224, 318, 316, 316, 316, 149, 224], [319, 348, 349, 351, 350, 349, 352, 224, 352, 224, 353, 354, 298, 298, 355, 350], [], [], [295, 296], [], [356, 357, 358, 359, 321, 212, 212, 343, 212, 316, 360, 212, 317, 362, 361, 319, 320, 363, 361, 364, 316, 366, 365, 364, 367, 368, 369], [], [], [151]]
theorem lt2 : ((Tryz.prog.funcs.toList.drop 200).take 100).map Tryz.prog.leadsTo = LT2 := by kernel_rfl
def LT3 : List (List FuncId) := [[370], [], [371, 372, 301, 373], [], [115], [229], [229], [160, 160, 160], [374], [145, 146], [], [25], [375], [314, 315], [376, 377, 378, 379, 380, 381, 382, 383, 384, 385, 386, 387, 388, 389, 390, 391, 392, 393, 394, 395, 396, 397, 398, 399, 400, 401, 402, 403, 404, 405, 406, 407, 408, 409, 410, 411, 412, 413, 414, 415, 416, 417, 418, 419], [420, 421, 422, 423, 148, 149, 422, 424, 148, 149, 425, 426, 425, 315, 315, 315, 315, 427, 315, 428, 429, 315, 430, 432, 431, 433, 352, 352, 423, 434], [295, 295], [316, 435], [298, 436], [316], [324], [316, 298], [321, 323, 324], [336], [437], [295, 438, 439, 323, 148, 149, 439, 440, 441, 442, 426, 442, 325, 325, 325, 325, 321, 325, 325, 316, 324, 325, 317, 318, 325, 319, 298, 352, 352, 323, 443, 23], [298], [161, 445, 444, 80, 446, 149, 162], [447], [323], [324, 316], [319, 298], [], [324, 316, 93, 326], [161, 161, 449, 162], [332, 80, 298], [316, 298], [298], [], [57, 57, 57, 450, 45, 162], [342, 334], [337, 451, 328], [], [321, 298], [], [452, 298, 298], [453, 316], [], [455, 222, 455, 298, 455, 298, 93, 326, 455, 93, 326, 455, 455, 93, 326, 455, 349, 349, 456, 298, 222, 457, 457, 458, 334, 326], [298], [298], [156, 459], [460, 460, 461, 460, 460, 461], [352, 462, 298, 463, 298, 300, 464, 350, 327, 326], [], [464, 462, 465, 466, 467, 468], [], [469], [471], [212, 474], [437], [475], [212], [212], [], [476], [], [477], [366, 365, 357, 478, 361], [479], [480, 44], [], [], [481], [482, 483, 312, 484], [], [], [485], [], [], [485, 486, 428], [430, 487], [488], [489, 142, 224], [491, 142, 224], [490, 224], [490, 490, 224], [490, 490, 224], [492, 490, 224, 224], [492, 490, 224, 224], [423, 429, 490], [488, 149, 224], [428, 315, 224], [423, 422, 224], [488, 327, 493], [423, 495, 494], [497, 496, 429, 428, 327, 493], [423, 485, 498, 499, 494, 327, 493], [423, 500, 327, 493], [501, 227, 327, 493]]
theorem lt3 : ((Tryz.prog.funcs.toList.drop 300).take 100).map Tryz.prog.leadsTo = LT3 := by kernel_rfl
def LT4 : List (List FuncId) := [[501, 502, 494], [501, 503, 494], [497, 496, 429, 428, 498, 93, 493, 334, 493], [488, 500, 504], [505], [501, 507, 506], [505, 428, 504, 429, 428, 339, 493], [424, 488, 334, 493], [424, 497, 506], [505, 342, 504], [488, 93, 493], [488, 500, 508, 506], [427, 428], [490, 428, 485, 428], [428, 429, 428], [485, 509, 420, 510, 224, 224], [485, 509, 420, 510, 510, 224, 224], [485, 511, 224], [433, 512, 488, 500, 351, 513, 500, 222, 500, 500, 45, 45, 514, 334, 493, 334, 493, 515], [], [485], [426, 422], [516, 23], [428, 500], [342], [315], [517, 57, 45], [490], [420, 420], [518], [519, 428], [485], [315], [488, 500, 500], [57, 450], [], [], [], [426, 439], [520, 23], [342, 149], [], [325], [149], [521, 522], [523], [], [45, 448], [], [45, 45, 524, 149], [332, 80], [], [46, 525, 526], [454], [527], [426, 298], [352, 93, 326, 463, 463, 298, 93, 326], [298], [45, 45, 332, 80, 334, 326], [460, 370], [], [117, 528, 117], [529], [156, 531, 530], [529], [529], [529], [529], [532, 533, 535, 534, 463, 537, 534], [212, 357, 470, 470], [538], [472, 212, 473], [539], [], [356, 323, 472, 360, 359, 473], [318, 473], [], [356, 323, 472, 366], [212], [356, 298], [], [], [46, 540, 23, 541, 251, 251, 429], [314, 428], [44, 542, 542], [], [], [543, 431], [428], [490], [428, 500], [490], [544], [485], [], [429, 490], [546], [423], [485], []]
theorem lt4 : ((Tryz.prog.funcs.toList.drop 400).take 100).map Tryz.prog.leadsTo = LT4 := by kernel_rfl
def LT5 : List (List FuncId) := [[485], [488, 500, 500], [434], [434], [514, 485], [428, 500], [548, 498, 496, 334, 493, 327, 493], [549], [222], [525, 485, 485], [550, 312, 552, 551], [553, 142, 554, 431, 486, 428, 486, 428, 149], [464, 513, 462, 513, 465, 513, 354, 485, 466, 513, 467, 513, 354, 485, 468, 513, 352, 224, 352, 224, 555], [485], [57, 450], [556, 222, 485, 93, 493, 45, 93, 493, 556, 227, 93, 493, 500, 500, 352, 93, 493, 354, 300, 352, 485, 463, 463, 93, 493], [315], [222, 149], [], [557, 558], [325], [560], [78, 561], [], [78, 562], [563, 312, 496], [542], [], [564], [532, 565, 566, 534], [567, 568], [569, 569, 460, 528, 570, 571, 572, 573], [156], [], [574], [536], [575, 576, 576], [536], [], [], [82, 144], [25], [484], [428], [545], [423, 429, 545], [547], [45, 448, 547], [], [577, 578], [428], [579], [], [420, 511], [420, 511], [352, 462, 485, 463, 485, 300, 464, 327, 493], [426, 485], [429, 487], [559, 431], [429, 428], [], [580, 581, 582, 583, 584, 585, 586, 587, 561, 561], [588, 589, 590, 591, 592, 593, 594, 595, 562, 562], [314, 423], [], [596, 597, 576, 598, 600], [], [601], [602, 603, 604, 605], [606], [607], [549, 608, 608, 608, 608, 608, 609, 572, 610, 610, 610, 573, 572, 573], [606], [], [], [], [460, 460, 611, 370], [], [], [], [], [612, 612], [180, 181], [613, 613, 613, 614], [], [], [], [], [], [615, 615], [616, 617], [618, 618, 618, 619], [], [], [], [], [460, 460, 620, 370, 460, 460, 461, 460, 460, 621, 370, 460, 460, 621, 370], [459, 596], [599], [460, 460, 622, 370, 370, 575, 459, 596, 596]]
theorem lt5 : ((Tryz.prog.funcs.toList.drop 500).take 100).map Tryz.prog.leadsTo = LT5 := by kernel_rfl
def LT6 : List (List FuncId) := [[599], [623, 623, 623, 623, 623, 623, 624], [625], [625], [625, 570, 626], [625, 570, 626], [627], [628], [629], [606, 630], [], [631, 480], [], [614], [632, 632, 632], [], [78], [], [619], [633, 633, 633], [634, 634], [634, 480], [528, 480, 461, 611, 461, 611, 621, 480], [], [623, 623, 623, 623, 623, 623], [], [], [], [635, 636, 637, 638], [], [639], [634], [], [], [], [], [115, 640, 641], [], [642, 643], [], [], [], [], [644, 645], [], [], [], [], [], [], [], [], [], [], [], [], [], [], [], [], [], [], [], [], [80], [], [], [], [], [], [], [], [], [], [], [], [], [], [], [626, 626, 626]]
theorem lt6 : (Tryz.prog.funcs.toList.drop 600).map Tryz.prog.leadsTo = LT6 := by kernel_rfl
def LT : List (List FuncId) := LT0 ++ (LT1 ++ (LT2 ++ (LT3 ++ (LT4 ++ (LT5 ++ (LT6))))))
theorem lt_all : Tryz.prog.funcs.toList.map Tryz.prog.leadsTo = LT := by
  unfold LT
  rw [← lt0, ← lt1, ← lt2, ← lt3, ← lt4, ← lt5, ← lt6]
  simp only [← List.map_append]
  have h0 : Tryz.prog.funcs.toList = Tryz.prog.funcs.toList.drop 0 := rfl
  refine congrArg _ ?_
  rw [cutL _ 500 100, cutL _ 400 100, cutL _ 300 100, cutL _ 200 100, cutL _ 100 100, cutL _ 0 100]
  rfl
noncomputable def LA : List FuncId := [3, 4, 16, 53, 18, 55, 52, 17, 54, 88, 151, 152, 215, 216, 299, 217, 15, 46, 82, 125, 126, 83, 127, 188, 239, 25, 57, 89, 153, 90, 154, 155, 91, 156, 194, 243, 218, 157, 158, 219, 220, 159, 80, 117, 184, 116, 118, 119, 185, 120, 189, 240, 128, 129, 130, 131, 133, 134, 191, 241, 23, 56, 132, 190, 135, 136, 137, 138, 139, 193, 192, 242, 140, 195, 196, 244, 197, 199, 198, 245, 200, 44, 144, 203, 204, 246, 247, 248, 205, 249, 206, 250, 207, 141, 201, 143, 142, 202, 47, 84, 95, 92, 160, 115, 166, 228, 230, 307, 305, 229, 306, 304, 167, 231, 48, 85, 145, 208, 251, 311, 252, 313, 314, 376, 377, 485, 378, 379, 380, 486, 428, 420, 381, 430, 519, 557, 429, 518, 487, 543, 431, 558, 559, 382, 488, 383, 489, 490, 500, 224, 384, 491, 385, 386, 387, 388, 492, 544, 545, 423, 389, 390, 391, 149, 392, 315, 421, 426, 517, 222, 300, 370, 480, 45, 422, 516, 148, 424, 342, 425, 427, 432, 433, 352, 460, 461, 528, 564, 434, 450, 332, 393, 394, 327, 161, 221, 445, 523, 444, 521, 560, 522, 78, 114, 561, 580, 581, 612, 582, 180, 181, 583, 613, 614, 632, 584, 585, 586, 587, 446, 162, 493, 395, 495, 494, 396, 497, 496, 546, 547, 448, 397, 498, 499, 398, 399, 501, 227, 303, 400, 502, 401, 503, 402, 93, 163, 334, 449, 524, 562, 588, 589, 615, 590, 616, 617, 591, 618, 619, 633, 592, 593, 594, 595, 403, 504, 514, 404, 505, 405, 507, 549, 577, 578, 506, 548, 406, 339, 407, 408, 409, 410, 411, 508, 412, 413, 414, 415, 509, 525, 563, 312, 375, 510, 550, 552, 551, 579, 416, 417, 511, 553, 554, 418, 512, 464, 529, 532, 565, 596, 620, 634, 621, 597, 459, 576, 611, 631, 598, 599, 622, 575, 600, 566, 534, 574, 513, 462, 465, 354, 466, 467, 468, 533, 535, 536, 463, 531, 569, 606, 627, 570, 607, 628, 635, 636, 640, 641, 637, 638, 642, 643, 644, 645, 571, 608, 629, 609, 630, 639, 572, 610, 573, 530, 567, 601, 623, 624, 568, 602, 625, 603, 604, 626, 605, 537, 555, 351, 515, 556, 419, 146, 209, 253, 254, 298, 255, 256, 257, 316, 295, 258, 317, 435, 318, 436, 259, 319, 320, 324, 437, 260, 321, 261, 262, 263, 264, 322, 323, 336, 265, 266, 267, 325, 438, 439, 520, 440, 441, 442, 443, 268, 269, 326, 270, 271, 329, 330, 328, 447, 272, 273, 274, 331, 275, 333, 276, 335, 277, 278, 337, 338, 279, 280, 340, 281, 341, 451, 282, 283, 284, 285, 286, 343, 287, 288, 344, 345, 452, 526, 542, 484, 297, 346, 453, 454, 527, 289, 290, 347, 291, 348, 455, 349, 456, 457, 458, 350, 353, 355, 292, 211, 213, 212, 294, 296, 356, 357, 469, 470, 538, 358, 471, 472, 539, 473, 359, 474, 360, 362, 361, 475, 363, 364, 366, 365, 476, 367, 477, 368, 478, 369, 479, 214, 210, 293, 86, 39, 77, 106, 107, 179, 108, 109, 182, 183, 237, 110, 111, 112, 113, 40, 79, 41, 147, 49, 50, 28, 59, 94, 164, 223, 301, 302, 371, 372, 373, 481, 225, 226, 165, 60, 51, 87, 150, 26, 58, 12, 22, 29, 42, 9, 33, 67, 34, 35, 68, 69, 36, 70, 37, 5, 24, 27, 11, 31, 61, 62, 63, 72, 96, 64, 19, 8, 32, 65, 97, 168, 169, 232, 308, 374, 482, 540, 541, 483, 233, 309, 98, 170, 171, 99, 172, 71, 234, 174, 173, 74, 235, 310, 100, 101, 102, 103, 175, 76, 176, 104, 105, 177, 178, 73, 236, 38, 75, 66, 7, 30, 20, 43, 81, 121, 122, 186, 123, 187, 238, 124, 14, 21, 6, 10, 13]
theorem fuel : 1 + (LT.map fun l => l.length + 1).sum = 2241 := by kernel_rfl
theorem via : viaM (fun f => (LT[f]?).getD []) 2241 [3] [] 0 = LA := by kernel_rfl
theorem clo : Tryz.prog.closure 3 = LA := closure_of lt_all fuel via
theorem j9 : (Rows.fleetNilRow.inPlace == Tryz.prog.inPlace 3) = true := by
  have h : Tryz.prog.inPlace 3 = Rows.fleetNilRow.inPlace := by
    unfold Program.inPlace
    rw [clo]
    kernel_rfl
  rw [h]; exact beq_self_eq_true _
theorem unf : Tryz.prog.unfollowed 3 = true := by
  unfold Program.unfollowed
  rw [clo]
  kernel_rfl
theorem j10 : (Rows.fleetNilRow.unfollowed == Tryz.prog.unfollowed 3) = true := by rw [unf]; rfl
theorem j11 : (Rows.fleetNilRow.recurses == Tryz.prog.recurses 3) = true := by
  unfold Program.recurses
  rw [unf]; rfl
def LA0 : List FuncId := [3, 4, 16, 53, 18, 55, 52, 17, 54, 88, 151, 152, 215, 216, 299, 217, 15, 46, 82, 125, 126, 83, 127, 188, 239, 25, 57, 89, 153, 90, 154, 155, 91, 156, 194, 243, 218, 157, 158, 219, 220, 159, 80, 117, 184, 116, 118, 119, 185, 120, 189, 240, 128, 129, 130, 131, 133, 134, 191, 241, 23, 56, 132, 190, 135, 136, 137, 138, 139, 193, 192, 242, 140, 195, 196, 244, 197, 199, 198, 245, 200, 44, 144, 203, 204, 246, 247, 248, 205, 249, 206, 250, 207, 141, 201, 143, 142, 202, 47, 84]
def LA1 : List FuncId := [95, 92, 160, 115, 166, 228, 230, 307, 305, 229, 306, 304, 167, 231, 48, 85, 145, 208, 251, 311, 252, 313, 314, 376, 377, 485, 378, 379, 380, 486, 428, 420, 381, 430, 519, 557, 429, 518, 487, 543, 431, 558, 559, 382, 488, 383, 489, 490, 500, 224, 384, 491, 385, 386, 387, 388, 492, 544, 545, 423, 389, 390, 391, 149, 392, 315, 421, 426, 517, 222, 300, 370, 480, 45, 422, 516, 148, 424, 342, 425, 427, 432, 433, 352, 460, 461, 528, 564, 434, 450, 332, 393, 394, 327, 161, 221, 445, 523, 444, 521]
def LA2 : List FuncId := [560, 522, 78, 114, 561, 580, 581, 612, 582, 180, 181, 583, 613, 614, 632, 584, 585, 586, 587, 446, 162, 493, 395, 495, 494, 396, 497, 496, 546, 547, 448, 397, 498, 499, 398, 399, 501, 227, 303, 400, 502, 401, 503, 402, 93, 163, 334, 449, 524, 562, 588, 589, 615, 590, 616, 617, 591, 618, 619, 633, 592, 593, 594, 595, 403, 504, 514, 404, 505, 405, 507, 549, 577, 578, 506, 548, 406, 339, 407, 408, 409, 410, 411, 508, 412, 413, 414, 415, 509, 525, 563, 312, 375, 510, 550, 552, 551, 579, 416, 417]
def LA3 : List FuncId := [511, 553, 554, 418, 512, 464, 529, 532, 565, 596, 620, 634, 621, 597, 459, 576, 611, 631, 598, 599, 622, 575, 600, 566, 534, 574, 513, 462, 465, 354, 466, 467, 468, 533, 535, 536, 463, 531, 569, 606, 627, 570, 607, 628, 635, 636, 640, 641, 637, 638, 642, 643, 644, 645, 571, 608, 629, 609, 630, 639, 572, 610, 573, 530, 567, 601, 623, 624, 568, 602, 625, 603, 604, 626, 605, 537, 555, 351, 515, 556, 419, 146, 209, 253, 254, 298, 255, 256, 257, 316, 295, 258, 317, 435, 318, 436, 259, 319, 320, 324]
def LA4 : List FuncId := [437, 260, 321, 261, 262, 263, 264, 322, 323, 336, 265, 266, 267, 325, 438, 439, 520, 440, 441, 442, 443, 268, 269, 326, 270, 271, 329, 330, 328, 447, 272, 273, 274, 331, 275, 333, 276, 335, 277, 278, 337, 338, 279, 280, 340, 281, 341, 451, 282, 283, 284, 285, 286, 343, 287, 288, 344, 345, 452, 526, 542, 484, 297, 346, 453, 454, 527, 289, 290, 347, 291, 348, 455, 349, 456, 457, 458, 350, 353, 355, 292, 211, 213, 212, 294, 296, 356, 357, 469, 470, 538, 358, 471, 472, 539, 473, 359, 474, 360, 362]
def LA5 : List FuncId := [361, 475, 363, 364, 366, 365, 476, 367, 477, 368, 478, 369, 479, 214, 210, 293, 86, 39, 77, 106, 107, 179, 108, 109, 182, 183, 237, 110, 111, 112, 113, 40, 79, 41, 147, 49, 50, 28, 59, 94, 164, 223, 301, 302, 371, 372, 373, 481, 225, 226, 165, 60, 51, 87, 150, 26, 58, 12, 22, 29, 42, 9, 33, 67, 34, 35, 68, 69, 36, 70, 37, 5, 24, 27, 11, 31, 61, 62, 63, 72, 96, 64, 19, 8, 32, 65, 97, 168, 169, 232, 308, 374, 482, 540, 541, 483, 233, 309, 98, 170]
def LA6 : List FuncId := [171, 99, 172, 71, 234, 174, 173, 74, 235, 310, 100, 101, 102, 103, 175, 76, 176, 104, 105, 177, 178, 73, 236, 38, 75, 66, 7, 30, 20, 43, 81, 121, 122, 186, 123, 187, 238, 124, 14, 21, 6, 10, 13]
theorem la : LA = LA0 ++ (LA1 ++ (LA2 ++ (LA3 ++ (LA4 ++ (LA5 ++ (LA6)))))) := by kernel_rfl
theorem g0 : (LA0.flatMap fun g => ((Tryz.prog.funcs[g]?).bind (·.body)).elim [] Code.globalsNamed) = [] := by kernel_rfl
theorem e0e : (LA0.filterMap fun g => (Tryz.prog.funcs[g]?).bind fun fn => if fn.body.isNone then entryReads.lookup fn.name else none) = [] := by kernel_rfl
theorem g1 : (LA1.flatMap fun g => ((Tryz.prog.funcs[g]?).bind (·.body)).elim [] Code.globalsNamed) = [] := by kernel_rfl
theorem e1e : (LA1.filterMap fun g => (Tryz.prog.funcs[g]?).bind fun fn => if fn.body.isNone then entryReads.lookup fn.name else none) = [] := by kernel_rfl
theorem g2 : (LA2.flatMap fun g => ((Tryz.prog.funcs[g]?).bind (·.body)).elim [] Code.globalsNamed) = [] := by kernel_rfl
theorem e2e : (LA2.filterMap fun g => (Tryz.prog.funcs[g]?).bind fun fn => if fn.body.isNone then entryReads.lookup fn.name else none) = [] := by kernel_rfl
theorem g3 : (LA3.flatMap fun g => ((Tryz.prog.funcs[g]?).bind (·.body)).elim [] Code.globalsNamed) = [4, 5, 6, 2, 3] := by kernel_rfl
theorem e3e : (LA3.filterMap fun g => (Tryz.prog.funcs[g]?).bind fun fn => if fn.body.isNone then entryReads.lookup fn.name else none) = [] := by kernel_rfl
theorem g4 : (LA4.flatMap fun g => ((Tryz.prog.funcs[g]?).bind (·.body)).elim [] Code.globalsNamed) = [] := by kernel_rfl
theorem e4e : (LA4.filterMap fun g => (Tryz.prog.funcs[g]?).bind fun fn => if fn.body.isNone then entryReads.lookup fn.name else none) = [] := by kernel_rfl
theorem g5 : (LA5.flatMap fun g => ((Tryz.prog.funcs[g]?).bind (·.body)).elim [] Code.globalsNamed) = [1, 1] := by kernel_rfl
theorem e5e : (LA5.filterMap fun g => (Tryz.prog.funcs[g]?).bind fun fn => if fn.body.isNone then entryReads.lookup fn.name else none) = [] := by kernel_rfl
theorem g6 : (LA6.flatMap fun g => ((Tryz.prog.funcs[g]?).bind (·.body)).elim [] Code.globalsNamed) = [] := by kernel_rfl
theorem e6e : (LA6.filterMap fun g => (Tryz.prog.funcs[g]?).bind fun fn => if fn.body.isNone then entryReads.lookup fn.name else none) = [] := by kernel_rfl
theorem j12 : (Rows.fleetNilRow.named == Tryz.prog.varsNamed 3) = true := by
  have h : Tryz.prog.varsNamed 3 = Rows.fleetNilRow.named := by
    unfold Program.varsNamed
    rw [clo, la]
    simp only [List.flatMap_append, List.filterMap_append]
    rw [g0, e0e, g1, e1e, g2, e2e, g3, e3e, g4, e4e, g5, e5e, g6, e6e]
    kernel_rfl
  rw [h]; exact beq_self_eq_true _
theorem n0 : ((Tryz.prog.funcs.toList.drop 0).take 100).any Func.goes = false := by kernel_rfl
theorem n1 : ((Tryz.prog.funcs.toList.drop 100).take 100).any Func.goes = false := by kernel_rfl
theorem n2 : ((Tryz.prog.funcs.toList.drop 200).take 100).any Func.goes = false := by kernel_rfl
theorem n3 : ((Tryz.prog.funcs.toList.drop 300).take 100).any Func.goes = false := by kernel_rfl
theorem n4 : ((Tryz.prog.funcs.toList.drop 400).take 100).any Func.goes = false := by kernel_rfl
theorem n5 : ((Tryz.prog.funcs.toList.drop 500).take 100).any Func.goes = false := by kernel_rfl
theorem n6 : (Tryz.prog.funcs.toList.drop 600).any Func.goes = false := by kernel_rfl
theorem noGo : Tryz.prog.funcs.toList.any Func.goes = false := by
  have h0 : Tryz.prog.funcs.toList = ((Tryz.prog.funcs.toList.drop 0).take 100) ++ (((Tryz.prog.funcs.toList.drop 100).take 100) ++ (((Tryz.prog.funcs.toList.drop 200).take 100) ++ (((Tryz.prog.funcs.toList.drop 300).take 100) ++ (((Tryz.prog.funcs.toList.drop 400).take 100) ++ (((Tryz.prog.funcs.toList.drop 500).take 100) ++ (Tryz.prog.funcs.toList.drop 600)))))) := by
    rw [cutL _ 500 100, cutL _ 400 100, cutL _ 300 100, cutL _ 200 100, cutL _ 100 100, cutL _ 0 100]
    rfl
  rw [h0]
  simp only [List.any_append, n0, n1, n2, n3, n4, n5, n6, Bool.or_false]
theorem c1 : Tryz.prog.funcNamed "foregone/foregonelaw36.FleetNil" = some 3 := by kernel_rfl
theorem hfunc : Rows.fleetNilRow.func = "foregone/foregonelaw36.FleetNil" := rfl
theorem hstart : Rows.fleetNilRow.start = .entering := rfl
theorem goes_of {P : Program} {f : FuncId} (h : P.funcs.toList.any Func.goes = false) : P.goes f = false := by
  have h1 : (P.closure f).any (fun g => (P.funcs[g]?).any Func.goes) = false := List.any_eq_false.2 fun g _ => by rw [any_none h g]; simp
  have h2 : P.funcs.any Func.goes = false := by rw [← Array.any_toList]; exact h
  unfold Program.goes
  rw [h1, h2]; simp
theorem from_of {P : Program} {n : String} {f : FuncId} (hn : P.funcNamed n = some f) (h : P.goes f = false) : P.goesFrom n = false := by
  unfold Program.goesFrom
  rw [hn]; exact h
theorem by_of {P : Program} {c : OpenClaim} {n : String} (hc : c.func = n) (hs : c.start = .entering) (h : P.goesFrom n = false) : false = c.goesBy P := by
  unfold OpenClaim.goesBy Program.goesAt
  rw [hc, hs, h]; rfl
theorem c5 : false = Rows.fleetNilRow.goesBy Tryz.prog := by_of hfunc hstart (from_of c1 (goes_of noGo))
end Go.Proofs.YtplboahkpmiofaaGreatDoor
