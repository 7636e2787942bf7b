/- Closed facts that the row of surmiselaw24.ServerNone asks for. Printed by a program. -/
import Derived.Test.YtclolaieehmgmaaGreatRows
import Derived.JoinedOf
import Derived.KernelRfl
import Derived.Test.YtclolaieehmgmaaGreatSFacts
namespace Go.Proofs.YtclolaieehmgmaaGreat.serverNone
set_option linter.unusedVariables false
set_option maxRecDepth 100000
theorem cl : Tryz.prog.closure 3 = [3, 6, 47, 60, 176, 77, 169, 300, 143, 270, 342, 492, 335, 484, 378, 485, 482, 144, 54, 161, 168, 162, 287, 313, 288, 436, 542, 289, 437, 290, 438, 543, 589, 291, 292, 439, 307, 398, 458, 461, 400, 440, 544, 499, 145, 174, 258, 133, 257, 399, 305, 306, 457, 459, 460, 304, 146, 271, 303, 456, 350, 452, 91, 204, 354, 355, 358, 503, 504, 505, 356, 205, 357, 359, 360, 361, 506, 563, 568, 609, 362, 507, 352, 502, 175, 299, 453, 549, 600, 308, 463, 462, 550, 601, 602, 554, 603, 604, 633, 516, 608, 644, 634, 464, 551, 605, 383, 606, 607, 635, 517, 518, 645, 636, 309, 310, 465, 552, 553, 231, 381, 382, 147, 48, 148, 149, 272, 49, 50, 51, 150, 76, 151, 61, 177, 229, 379, 380, 311, 273, 415, 319, 341, 152, 274, 52, 153, 180, 275, 416, 417, 418, 419, 420, 276, 241, 421, 422, 534, 423, 519, 424, 535, 425, 536, 588, 537, 426, 538, 427, 277, 428, 539, 429, 195, 331, 280, 332, 434, 330, 479, 560, 561, 348, 326, 430, 431, 540, 435, 475, 476, 432, 186, 327, 478, 328, 329, 340, 489, 490, 491, 155, 156, 281, 373, 512, 569, 282, 283, 284, 285, 154, 279, 433, 541, 278, 53, 157, 158, 159, 286, 353, 160, 88, 201, 202, 7, 9, 62, 63, 64, 65, 8, 55, 163, 293, 81, 294, 441, 377, 515, 524, 581, 582, 571, 612, 618, 641, 613, 638, 614, 623, 624, 615, 639, 640, 646, 616, 617, 619, 620, 545, 446, 548, 591, 597, 632, 592, 629, 593, 594, 630, 631, 643, 595, 596, 598, 599, 442, 447, 546, 590, 178, 338, 488, 443, 547, 93, 209, 210, 334, 164, 165, 166, 295, 444, 445, 487, 296, 337, 167, 297, 449, 450, 448, 298, 451, 366, 510, 511, 509, 320, 170, 301, 454, 322, 184, 455, 56, 57, 58, 171, 302, 135, 259, 401, 523, 573, 574, 622, 575, 576, 625, 626, 642, 577, 578, 579, 580, 402, 403, 404, 405, 525, 59, 172, 173, 10, 22, 12, 66, 179, 312, 181, 314, 466, 467, 556, 557, 555, 558, 315, 468, 469, 364, 508, 316, 317, 470, 471, 472, 559, 318, 473, 474, 69, 183, 70, 67, 71, 185, 321, 323, 351, 500, 566, 567, 495, 562, 564, 610, 611, 637, 501, 324, 325, 477, 333, 480, 481, 483, 72, 16, 17, 14, 75, 193, 235, 384, 74, 190, 343, 493, 191, 344, 494, 345, 346, 496, 497, 498, 565, 192, 347, 18, 11, 68, 182, 13, 73, 188, 339, 187, 336, 486, 189, 15] := by kernel_rfl
theorem unf : Tryz.prog.unfollowed 3 = true := by
  unfold Program.unfollowed
  rw [cl]
  kernel_rfl
theorem x0 : (fun (P : Program) (f : FuncId) (fn : Func) (s : ChangeSpec) (c : OpenClaim) => (c.wf (OpenSpec.ofChange s) : Bool)) Tryz.prog 3 Tryz.f3 Rows.serverNoneSpec Rows.serverNoneRow = true := by kernel_rfl
theorem x3 : (fun (P : Program) (f : FuncId) (fn : Func) (s : ChangeSpec) (c : OpenClaim) => (fn.params.all (P.readableRec ·) : Bool)) Tryz.prog 3 Tryz.f3 Rows.serverNoneSpec Rows.serverNoneRow = true := by kernel_rfl
theorem x4 : (fun (P : Program) (f : FuncId) (fn : Func) (s : ChangeSpec) (c : OpenClaim) => (namedTie P c.named s.vars : Bool)) Tryz.prog 3 Tryz.f3 Rows.serverNoneSpec Rows.serverNoneRow = true := by kernel_rfl
theorem x5 : (fun (P : Program) (f : FuncId) (fn : Func) (s : ChangeSpec) (c : OpenClaim) => ((c.stops == []) : Bool)) Tryz.prog 3 Tryz.f3 Rows.serverNoneSpec Rows.serverNoneRow = true := by kernel_rfl
theorem x7 : (fun (P : Program) (f : FuncId) (fn : Func) (s : ChangeSpec) (c : OpenClaim) => ((c.knobs == []) : Bool)) Tryz.prog 3 Tryz.f3 Rows.serverNoneSpec Rows.serverNoneRow = true := by kernel_rfl
theorem x9 : (fun (P : Program) (f : FuncId) (fn : Func) (s : ChangeSpec) (c : OpenClaim) => ((c.inPlace == P.inPlace f) : Bool)) Tryz.prog 3 Tryz.f3 Rows.serverNoneSpec Rows.serverNoneRow = true := by
  show (Rows.serverNoneRow.inPlace == Tryz.prog.inPlace 3) = true
  unfold Program.inPlace
  rw [cl]
  kernel_rfl
theorem x10 : (fun (P : Program) (f : FuncId) (fn : Func) (s : ChangeSpec) (c : OpenClaim) => ((c.unfollowed == P.unfollowed f) : Bool)) Tryz.prog 3 Tryz.f3 Rows.serverNoneSpec Rows.serverNoneRow = true := by
  show (Rows.serverNoneRow.unfollowed == Tryz.prog.unfollowed 3) = true
  rw [unf]; kernel_rfl
theorem x11 : (fun (P : Program) (f : FuncId) (fn : Func) (s : ChangeSpec) (c : OpenClaim) => ((c.recurses == P.recurses f) : Bool)) Tryz.prog 3 Tryz.f3 Rows.serverNoneSpec Rows.serverNoneRow = true := by
  show (Rows.serverNoneRow.recurses == Tryz.prog.recurses 3) = true
  unfold Program.recurses
  rw [unf]; kernel_rfl
theorem x12 : (fun (P : Program) (f : FuncId) (fn : Func) (s : ChangeSpec) (c : OpenClaim) => ((c.named == P.varsNamed f) : Bool)) Tryz.prog 3 Tryz.f3 Rows.serverNoneSpec Rows.serverNoneRow = true := by
  show (Rows.serverNoneRow.named == Tryz.prog.varsNamed 3) = true
  unfold Program.varsNamed
  rw [cl]
  kernel_rfl
theorem x13 : (fun (P : Program) (f : FuncId) (fn : Func) (s : ChangeSpec) (c : OpenClaim) => ((c.maps == (fn.params.toList ++ s.plain.varTypes P).any (P.mapsRec ·)) : Bool)) Tryz.prog 3 Tryz.f3 Rows.serverNoneSpec Rows.serverNoneRow = true := by kernel_rfl
theorem x14 : (fun (P : Program) (f : FuncId) (fn : Func) (s : ChangeSpec) (c : OpenClaim) => ((c.ifaces == (fn.params.toList ++ s.plain.varTypes P).any (P.ifacesRec ·)) : Bool)) Tryz.prog 3 Tryz.f3 Rows.serverNoneSpec Rows.serverNoneRow = true := by kernel_rfl
theorem x15 : (fun (P : Program) (f : FuncId) (fn : Func) (s : ChangeSpec) (c : OpenClaim) => ((c.mapsOut == P.mapsAmong fn.resultTypes.toList) : Bool)) Tryz.prog 3 Tryz.f3 Rows.serverNoneSpec Rows.serverNoneRow = true := by kernel_rfl
theorem x16 : (fun (P : Program) (f : FuncId) (fn : Func) (s : ChangeSpec) (c : OpenClaim) => ((c.loops == (fn.params.toList ++ s.plain.varTypes P).any (P.loopsFrom ·)) : Bool)) Tryz.prog 3 Tryz.f3 Rows.serverNoneSpec Rows.serverNoneRow = true := by kernel_rfl
theorem x17 : (fun (P : Program) (f : FuncId) (fn : Func) (s : ChangeSpec) (c : OpenClaim) => ((c.wideKeys == (fn.params.toList ++ s.plain.varTypes P ++ fn.resultTypes.toList).any (P.wideKeysFrom ·)) : Bool)) Tryz.prog 3 Tryz.f3 Rows.serverNoneSpec Rows.serverNoneRow = true := by kernel_rfl
theorem x18 : (fun (P : Program) (f : FuncId) (fn : Func) (s : ChangeSpec) (c : OpenClaim) => (s.vars.all (P.varReadable ·) : Bool)) Tryz.prog 3 Tryz.f3 Rows.serverNoneSpec Rows.serverNoneRow = true := by kernel_rfl
theorem x19 : (fun (P : Program) (f : FuncId) (fn : Func) (s : ChangeSpec) (c : OpenClaim) => (fn.resultTypes.all (fun t => P.readableRec t && decide (t < P.types.size)) : Bool)) Tryz.prog 3 Tryz.f3 Rows.serverNoneSpec Rows.serverNoneRow = true := by kernel_rfl
theorem x20 : (fun (P : Program) (f : FuncId) (fn : Func) (s : ChangeSpec) (c : OpenClaim) => ((c.ifacesOut == fn.resultTypes.toList.any (P.ifacesRec ·)) : Bool)) Tryz.prog 3 Tryz.f3 Rows.serverNoneSpec Rows.serverNoneRow = true := by kernel_rfl
theorem x21 : (fun (P : Program) (f : FuncId) (fn : Func) (s : ChangeSpec) (c : OpenClaim) => ((c.loopsOut == fn.resultTypes.toList.any (P.loopsFrom ·)) : Bool)) Tryz.prog 3 Tryz.f3 Rows.serverNoneSpec Rows.serverNoneRow = true := by kernel_rfl
theorem x22 : (fun (P : Program) (f : FuncId) (fn : Func) (s : ChangeSpec) (c : OpenClaim) => ((c.plainKeys == P.plainKeys) : Bool)) Tryz.prog 3 Tryz.f3 Rows.serverNoneSpec Rows.serverNoneRow = true := by kernel_rfl
theorem x23 : (fun (P : Program) (f : FuncId) (fn : Func) (s : ChangeSpec) (c : OpenClaim) => (c.shortTexts.isNone : Bool)) Tryz.prog 3 Tryz.f3 Rows.serverNoneSpec Rows.serverNoneRow = true := by kernel_rfl
theorem x26 : (fun (P : Program) (f : FuncId) (fn : Func) (s : ChangeSpec) (c : OpenClaim) => ((c.lifted == P.liftsFinal) : Bool)) Tryz.prog 3 Tryz.f3 Rows.serverNoneSpec Rows.serverNoneRow = true := by kernel_rfl
theorem x27 : (fun (P : Program) (f : FuncId) (fn : Func) (s : ChangeSpec) (c : OpenClaim) => ((P.make == some c.make) : Bool)) Tryz.prog 3 Tryz.f3 Rows.serverNoneSpec Rows.serverNoneRow = true := by kernel_rfl
theorem x28 : (fun (P : Program) (f : FuncId) (fn : Func) (s : ChangeSpec) (c : OpenClaim) => ((c.kinds == (if c.domain.isEmpty then [] else fn.params.toList.map fun t => match P.underlying t with | some (.int k) => some k | _ => none)) : Bool)) Tryz.prog 3 Tryz.f3 Rows.serverNoneSpec Rows.serverNoneRow = true := by kernel_rfl
theorem x29 : (fun (P : Program) (f : FuncId) (fn : Func) (s : ChangeSpec) (c : OpenClaim) => ((c.pinned == c.pinnedBy) : Bool)) Tryz.prog 3 Tryz.f3 Rows.serverNoneSpec Rows.serverNoneRow = true := by kernel_rfl
theorem x30 : (fun (P : Program) (f : FuncId) (fn : Func) (s : ChangeSpec) (c : OpenClaim) => ((c.veiled == (fn.params.toList ++ s.plain.varTypes P ++ fn.resultTypes.toList).any (P.veiledRec ·)) : Bool)) Tryz.prog 3 Tryz.f3 Rows.serverNoneSpec Rows.serverNoneRow = true := by kernel_rfl
theorem x31 : (fun (P : Program) (f : FuncId) (fn : Func) (s : ChangeSpec) (c : OpenClaim) => (c.veiledFits P fn.params.toList (fn.params.toList ++ s.plain.varTypes P ++ fn.resultTypes.toList) : Bool)) Tryz.prog 3 Tryz.f3 Rows.serverNoneSpec Rows.serverNoneRow = true := by kernel_rfl
theorem closed : joinedFacts Tryz.prog 3 Tryz.f3 Rows.serverNoneSpec Rows.serverNoneRow = true := by
  unfold joinedFacts
  simp only [Bool.and_eq_true]
  exact ⟨⟨⟨⟨⟨⟨⟨⟨⟨⟨⟨⟨⟨⟨⟨⟨⟨⟨⟨⟨⟨⟨⟨⟨⟨⟨⟨⟨⟨⟨⟨x0, Facts.laid⟩, Facts.maps⟩, x3⟩, x4⟩, x5⟩, Facts.stops⟩, x7⟩, Facts.knobs⟩, x9⟩, x10⟩, x11⟩, x12⟩, x13⟩, x14⟩, x15⟩, x16⟩, x17⟩, x18⟩, x19⟩, x20⟩, x21⟩, x22⟩, x23⟩, Facts.heard⟩, Facts.enter⟩, x26⟩, x27⟩, x28⟩, x29⟩, x30⟩, x31⟩

end Go.Proofs.YtclolaieehmgmaaGreat.serverNone
