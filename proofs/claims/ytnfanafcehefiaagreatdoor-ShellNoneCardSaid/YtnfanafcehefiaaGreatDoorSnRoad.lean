/- A part of the claim: see the text that holds the theorem. -/
import Derived.Test.YtnfanafcehefiaaGreatDoorRows
import Derived.KernelRfl
set_option linter.unusedSimpArgs false
set_option linter.unusedVariables false
/-! The road's functions, reckoned with a set of bits. -/
namespace Go.Proofs.YtnfanafcehefiaaGreatDoor
open Go
set_option maxRecDepth 100000

def fclo (P : Program) : Nat → List FuncId → Nat → List FuncId → List FuncId
  | 0, _, _, seen => seen.reverse
  | _ + 1, [], _, seen => seen.reverse
  | n + 1, f :: todo, m, seen =>
    match m.testBit f with
    | true => fclo P n todo m seen
    | false => fclo P n ((P.funcs[f]?).elim [] P.leadsTo ++ todo) (m ||| 1 <<< f) (f :: seen)

theorem fclo_eq (P : Program) : ∀ (n : Nat) (todo : List FuncId) (m : Nat) (seen : List FuncId), (∀ i, m.testBit i = seen.contains i) → fclo P n todo m seen = P.closureVia n todo seen
  | 0, todo, m, seen, _ => by simp [fclo, Program.closureVia]
  | n + 1, [], m, seen, _ => by simp [fclo, Program.closureVia]
  | n + 1, f :: todo, m, seen, h => by
    simp only [fclo, Program.closureVia]
    cases hb : m.testBit f with
    | true =>
      have hc : seen.contains f = true := by rw [← h f]; exact hb
      simp only [hc, if_true]
      exact fclo_eq P n todo m seen h
    | false =>
      have hc : seen.contains f = false := by rw [← h f]; exact hb
      simp only [hc, Bool.false_eq_true, if_false]
      refine fclo_eq P n _ _ _ fun i => ?_
      rw [Nat.testBit_or, Nat.one_shiftLeft, Nat.testBit_two_pow, h i, List.contains_cons]
      by_cases hi : f = i
      · subst hi; simp
      · have : (i == f) = false := by simpa using fun e => hi e.symm
        simp [hi, this]

def roadList : List FuncId := [3, 4, 8, 9, 10, 13, 37, 71, 111, 112, 166, 165, 167, 113, 114, 168, 169, 243, 244, 5, 6, 12, 16, 44, 74, 115, 45, 75, 116, 76, 117, 77, 118, 131, 204, 170, 245, 85, 88, 15, 43, 17, 46, 78, 119, 171, 246, 247, 172, 248, 120, 121, 79, 80, 122, 173, 174, 175, 249, 250, 251, 176, 252, 183, 253, 184, 185, 256, 187, 306, 180, 188, 258, 259, 310, 379, 464, 517, 181, 123, 177, 254, 307, 375, 459, 97, 149, 460, 461, 376, 462, 516, 567, 515, 566, 150, 230, 377, 308, 178, 179, 255, 309, 378, 463, 160, 125, 189, 140, 226, 225, 297, 159, 190, 261, 260, 141, 145, 228, 298, 218, 191, 104, 158, 238, 157, 236, 299, 237, 301, 372, 300, 363, 369, 458, 364, 453, 365, 454, 455, 366, 456, 457, 514, 367, 368, 370, 371, 156, 192, 262, 193, 263, 124, 182, 186, 257, 126, 194, 264, 265, 311, 312, 313, 316, 314, 315, 318, 380, 317, 81, 127, 146, 195, 266, 102, 154, 235, 234, 105, 267, 319, 381, 465, 382, 95, 268, 320, 383, 384, 466, 518, 519, 568, 520, 521, 569, 570, 622, 522, 523, 524, 525, 385, 468, 467, 19, 48, 82, 128, 49, 83, 129, 196, 269, 321, 50, 84, 130, 197, 96, 147, 148, 229, 270, 161, 322, 302, 386, 374, 387, 469, 526, 271, 323, 132, 388, 470, 205, 286, 355, 450, 513, 289, 291, 206, 210, 290, 358, 207, 287, 208, 211, 292, 294, 209, 288, 356, 451, 357, 213, 295, 360, 212, 293, 359, 139, 219, 220, 221, 222, 223, 224, 198, 272, 324, 389, 239, 303, 373, 304, 273, 325, 274, 162, 240, 305, 163, 241, 242, 326, 327, 390, 329, 328, 391, 392, 471, 472, 275, 330, 393, 214, 144, 143, 227, 142, 92, 138, 199, 276, 331, 394, 395, 473, 527, 571, 623, 528, 572, 529, 573, 624, 574, 354, 439, 498, 440, 441, 499, 442, 500, 501, 443, 444, 153, 502, 547, 233, 445, 503, 548, 591, 592, 549, 594, 593, 595, 550, 596, 551, 597, 636, 637, 598, 552, 599, 603, 600, 510, 565, 601, 605, 602, 553, 604, 554, 606, 555, 607, 556, 608, 638, 639, 640, 401, 557, 558, 609, 610, 559, 611, 641, 660, 666, 665, 668, 669, 670, 671, 672, 661, 667, 662, 642, 643, 644, 645, 612, 560, 504, 505, 506, 508, 562, 563, 618, 619, 620, 561, 613, 614, 615, 616, 646, 617, 647, 648, 649, 650, 446, 507, 509, 564, 621, 589, 635, 231, 447, 511, 512, 448, 449, 396, 397, 474, 475, 476, 477, 398, 478, 400, 399, 332, 333, 402, 403, 404, 405, 334, 101, 151, 406, 413, 479, 481, 532, 575, 480, 531, 530, 277, 335, 407, 482, 408, 336, 409, 429, 493, 543, 200, 278, 337, 338, 339, 410, 411, 412, 483, 492, 428, 340, 347, 426, 279, 341, 342, 414, 343, 100, 152, 232, 103, 155, 415, 484, 344, 416, 417, 418, 419, 420, 486, 485, 487, 533, 534, 576, 577, 578, 579, 580, 625, 626, 627, 628, 651, 652, 658, 653, 655, 656, 657, 663, 654, 664, 536, 581, 629, 630, 582, 631, 632, 659, 583, 633, 634, 584, 535, 537, 585, 490, 542, 489, 540, 541, 587, 488, 538, 539, 586, 421, 422, 423, 424, 425, 345, 280, 201, 281, 346, 202, 282, 203, 283, 284, 348, 427, 491, 349, 285, 350, 430, 436, 494, 495, 438, 437, 544, 588, 496, 546, 545, 590, 39, 351, 431, 432, 497, 433, 434, 435, 352, 353, 86, 133, 134, 87, 56, 98, 99, 60, 18, 47, 20, 21, 51, 89, 90, 135, 215, 296, 361, 41, 362, 452, 136, 216, 137, 217, 91, 52, 93, 22, 53, 94, 23, 54, 55, 24, 57, 25, 58, 26, 59, 27, 61, 28, 62, 67, 106, 29, 63, 107, 64, 108, 30, 65, 109, 31, 66, 110, 164, 32, 33, 34, 68, 35, 69, 36, 70, 11, 14, 38, 72, 40, 42, 73, 7]

theorem roadFuel : 1 + (Tryz.prog.funcs.toList.map fun g => (Tryz.prog.leadsTo g).length + 1).sum = 2105 := by kernel_rfl
theorem roadRun : fclo Tryz.prog 2105 [3] 0 [] = roadList := by kernel_rfl
theorem road : Tryz.prog.closure 3 = roadList := by
  unfold Program.closure
  rw [roadFuel, ← fclo_eq Tryz.prog 2105 [3] 0 [] (fun i => by simp), roadRun]

end Go.Proofs.YtnfanafcehefiaaGreatDoor
