/- Lemmas and walks that the claims of this seat share: several texts, joined. -/
import Derived.KernelRfl
import Derived.Lib.IndexMore
import Derived.Lib.CountLaws
import Derived.Lib.Split
import Derived.Lib.Case
import Derived.Test.YtjgdnhmbfeekoaaGreatDoorProg
import Derived.WalkKit
import Derived.Below
import Derived.IntWalk
import Derived.Deep.LoopGhost
import Derived.Deep.QuietTactic
import Derived.BigQuiet
import Derived.Lib.Hide
import Derived.Lib.ItoaMem
import Derived.Test.YtjgdnhmbfeekoaaGreatDoorRows
import Derived.ProofKit
import Derived.OpenShut
import Derived.LaidMore
import Derived.Lay
import Derived.HandedShaped
import Derived.Stop.Joined
import Derived.Lib.LaidU8
import Derived.Shelf.Vars
import Derived.Shelf.Strings.Builder1
import Derived.Shelf.Strings.OnBuilder
import Derived.Shelf.Strings.Cut
import Derived.Shelf.Strings.Split
import Derived.Shelf.Strings.Repeat
import Derived.Ground.Names2Prog
import Derived.Shelf.Slices.Clone
import Derived.Lib.ConvBytes
import Derived.Lib.AtoiAllMem
import Derived.Lib.AtoiErrMem
import Derived.Laws.Strings3
import Derived.Laws.Closers25
import Derived.Laws.Closers25b
import Derived.BigCall
import Derived.BigGuard
import Derived.Tactics
import Derived.Deep.RegionHeld3
import Derived.StillTailTactics
/- ==== the text M1 ==== -/
section
/- The tables of chapters 3 to 6 as lists of numbers, what they answer, and the closed facts on them that the plain laws use. No program is in sight here. -/
namespace Go.Proofs.Pt

def clsT : List (Int × Int × Int) := [
  (768, 788, 230), (789, 789, 232), (790, 793, 220), (794, 794, 232), (795, 795, 216), (796, 800, 220), (801, 802, 202), (803, 806, 220),
  (807, 808, 202), (809, 819, 220), (820, 824, 1), (825, 828, 220), (829, 836, 230), (837, 837, 240), (838, 838, 230), (839, 841, 220),
  (842, 844, 230), (845, 846, 220), (848, 850, 230), (851, 854, 220), (855, 855, 230), (856, 856, 232), (857, 858, 220), (859, 859, 230),
  (860, 860, 233), (861, 862, 234), (863, 863, 233), (864, 865, 234), (866, 866, 233), (867, 879, 230), (1611, 1611, 27), (1612, 1612, 28),
  (1613, 1613, 29), (1614, 1614, 30), (1615, 1615, 31), (1616, 1616, 32), (1617, 1617, 33), (1618, 1618, 34), (2364, 2364, 7), (2381, 2381, 9),
  (8400, 8401, 230), (12441, 12442, 8)]
def kinT : List (Int × Int × Int) := [
  (0, 9, 3), (10, 10, 2), (11, 12, 3), (13, 13, 1), (14, 31, 3), (127, 159, 3), (169, 169, 14), (173, 173, 3),
  (174, 174, 14), (768, 879, 4), (1536, 1541, 7), (1564, 1564, 3), (1611, 1631, 4), (1757, 1757, 7), (2307, 2307, 8), (2363, 2363, 8),
  (2364, 2364, 4), (2366, 2368, 8), (2377, 2380, 8), (2381, 2381, 4), (4352, 4447, 9), (4448, 4519, 10), (4520, 4607, 11), (8203, 8203, 3),
  (8204, 8204, 4), (8205, 8205, 5), (8206, 8207, 3), (8232, 8238, 3), (8252, 8252, 14), (8265, 8265, 14), (8288, 8303, 3), (8400, 8432, 4),
  (8482, 8482, 14), (8505, 8505, 14), (8596, 8601, 14), (8986, 8987, 14), (9728, 9732, 14), (9745, 9745, 14), (9748, 9749, 14), (9786, 9786, 14),
  (9829, 9829, 14), (9889, 9889, 14), (9989, 9989, 14), (10084, 10084, 14), (12441, 12442, 4), (65024, 65039, 4), (65279, 65279, 3), (127462, 127487, 6),
  (127744, 127994, 14), (127995, 127999, 4), (128000, 128591, 14), (128640, 128767, 14), (129280, 129535, 14)]
def drpT : List (Int × Int × Int) := [
  (173, 173, 0), (847, 847, 0), (1564, 1564, 0), (4447, 4448, 0), (6068, 6069, 0), (6155, 6159, 0), (8203, 8207, 0), (8234, 8238, 0),
  (8288, 8303, 0), (12644, 12644, 0), (65024, 65039, 0), (65279, 65279, 0), (65440, 65440, 0), (65520, 65528, 0), (917504, 921599, 0)]
def decT : List (Int × List Int) := [
  (160, [32]), (168, [32, 776]), (170, [97]), (175, [32, 772]), (178, [50]), (179, [51]),
  (180, [32, 769]), (181, [956]), (184, [32, 807]), (185, [49]), (186, [111]), (188, [49, 8260, 52]),
  (189, [49, 8260, 50]), (190, [51, 8260, 52]), (192, [65, 768]), (193, [65, 769]), (194, [65, 770]), (195, [65, 771]),
  (196, [65, 776]), (197, [65, 778]), (199, [67, 807]), (200, [69, 768]), (201, [69, 769]), (202, [69, 770]),
  (203, [69, 776]), (204, [73, 768]), (205, [73, 769]), (206, [73, 770]), (207, [73, 776]), (209, [78, 771]),
  (210, [79, 768]), (211, [79, 769]), (212, [79, 770]), (213, [79, 771]), (214, [79, 776]), (217, [85, 768]),
  (218, [85, 769]), (219, [85, 770]), (220, [85, 776]), (221, [89, 769]), (224, [97, 768]), (225, [97, 769]),
  (226, [97, 770]), (227, [97, 771]), (228, [97, 776]), (229, [97, 778]), (231, [99, 807]), (232, [101, 768]),
  (233, [101, 769]), (234, [101, 770]), (235, [101, 776]), (236, [105, 768]), (237, [105, 769]), (238, [105, 770]),
  (239, [105, 776]), (241, [110, 771]), (242, [111, 768]), (243, [111, 769]), (244, [111, 770]), (245, [111, 771]),
  (246, [111, 776]), (249, [117, 768]), (250, [117, 769]), (251, [117, 770]), (252, [117, 776]), (253, [121, 769]),
  (255, [121, 776]), (256, [65, 772]), (257, [97, 772]), (258, [65, 774]), (259, [97, 774]), (260, [65, 808]),
  (261, [97, 808]), (262, [67, 769]), (263, [99, 769]), (264, [67, 770]), (265, [99, 770]), (266, [67, 775]),
  (267, [99, 775]), (268, [67, 780]), (269, [99, 780]), (270, [68, 780]), (271, [100, 780]), (274, [69, 772]),
  (275, [101, 772]), (276, [69, 774]), (277, [101, 774]), (278, [69, 775]), (279, [101, 775]), (280, [69, 808]),
  (281, [101, 808]), (282, [69, 780]), (283, [101, 780]), (284, [71, 770]), (285, [103, 770]), (286, [71, 774]),
  (287, [103, 774]), (288, [71, 775]), (289, [103, 775]), (290, [71, 807]), (291, [103, 807]), (292, [72, 770]),
  (293, [104, 770]), (296, [73, 771]), (297, [105, 771]), (298, [73, 772]), (299, [105, 772]), (300, [73, 774]),
  (301, [105, 774]), (302, [73, 808]), (303, [105, 808]), (304, [73, 775]), (306, [73, 74]), (307, [105, 106]),
  (308, [74, 770]), (309, [106, 770]), (310, [75, 807]), (311, [107, 807]), (313, [76, 769]), (314, [108, 769]),
  (315, [76, 807]), (316, [108, 807]), (317, [76, 780]), (318, [108, 780]), (319, [76, 183]), (320, [108, 183]),
  (323, [78, 769]), (324, [110, 769]), (325, [78, 807]), (326, [110, 807]), (327, [78, 780]), (328, [110, 780]),
  (329, [700, 110]), (332, [79, 772]), (333, [111, 772]), (334, [79, 774]), (335, [111, 774]), (336, [79, 779]),
  (337, [111, 779]), (340, [82, 769]), (341, [114, 769]), (342, [82, 807]), (343, [114, 807]), (344, [82, 780]),
  (345, [114, 780]), (346, [83, 769]), (347, [115, 769]), (348, [83, 770]), (349, [115, 770]), (350, [83, 807]),
  (351, [115, 807]), (352, [83, 780]), (353, [115, 780]), (354, [84, 807]), (355, [116, 807]), (356, [84, 780]),
  (357, [116, 780]), (360, [85, 771]), (361, [117, 771]), (362, [85, 772]), (363, [117, 772]), (364, [85, 774]),
  (365, [117, 774]), (366, [85, 778]), (367, [117, 778]), (368, [85, 779]), (369, [117, 779]), (370, [85, 808]),
  (371, [117, 808]), (372, [87, 770]), (373, [119, 770]), (374, [89, 770]), (375, [121, 770]), (376, [89, 776]),
  (377, [90, 769]), (378, [122, 769]), (379, [90, 775]), (380, [122, 775]), (381, [90, 780]), (382, [122, 780]),
  (383, [115]), (416, [79, 795]), (417, [111, 795]), (431, [85, 795]), (432, [117, 795]), (902, [913, 769]),
  (903, [183]), (904, [917, 769]), (905, [919, 769]), (906, [921, 769]), (908, [927, 769]), (910, [933, 769]),
  (911, [937, 769]), (912, [953, 776, 769]), (938, [921, 776]), (939, [933, 776]), (940, [945, 769]), (941, [949, 769]),
  (942, [951, 769]), (943, [953, 769]), (944, [965, 776, 769]), (970, [953, 776]), (971, [965, 776]), (972, [959, 769]),
  (973, [965, 769]), (974, [969, 769]), (2392, [2325, 2364]), (2393, [2326, 2364]), (2394, [2327, 2364]), (7840, [65, 803]),
  (7841, [97, 803]), (7842, [65, 777]), (7843, [97, 777]), (7844, [65, 770, 769]), (7845, [97, 770, 769]), (7846, [65, 770, 768]),
  (7847, [97, 770, 768]), (7848, [65, 770, 777]), (7849, [97, 770, 777]), (7850, [65, 770, 771]), (7851, [97, 770, 771]), (7852, [65, 803, 770]),
  (7853, [97, 803, 770]), (7854, [65, 774, 769]), (7855, [97, 774, 769]), (7856, [65, 774, 768]), (7857, [97, 774, 768]), (7858, [65, 774, 777]),
  (7859, [97, 774, 777]), (7860, [65, 774, 771]), (7861, [97, 774, 771]), (7862, [65, 803, 774]), (7863, [97, 803, 774]), (7864, [69, 803]),
  (7865, [101, 803]), (7866, [69, 777]), (7867, [101, 777]), (7868, [69, 771]), (7869, [101, 771]), (7870, [69, 770, 769]),
  (7871, [101, 770, 769]), (7872, [69, 770, 768]), (7873, [101, 770, 768]), (7874, [69, 770, 777]), (7875, [101, 770, 777]), (7876, [69, 770, 771]),
  (7877, [101, 770, 771]), (7878, [69, 803, 770]), (7879, [101, 803, 770]), (7880, [73, 777]), (7881, [105, 777]), (7882, [73, 803]),
  (7883, [105, 803]), (7884, [79, 803]), (7885, [111, 803]), (7886, [79, 777]), (7887, [111, 777]), (7888, [79, 770, 769]),
  (7889, [111, 770, 769]), (7890, [79, 770, 768]), (7891, [111, 770, 768]), (7892, [79, 770, 777]), (7893, [111, 770, 777]), (7894, [79, 770, 771]),
  (7895, [111, 770, 771]), (7896, [79, 803, 770]), (7897, [111, 803, 770]), (7898, [79, 795, 769]), (7899, [111, 795, 769]), (7900, [79, 795, 768]),
  (7901, [111, 795, 768]), (7902, [79, 795, 777]), (7903, [111, 795, 777]), (7904, [79, 795, 771]), (7905, [111, 795, 771]), (7906, [79, 795, 803]),
  (7907, [111, 795, 803]), (7908, [85, 803]), (7909, [117, 803]), (7910, [85, 777]), (7911, [117, 777]), (7912, [85, 795, 769]),
  (7913, [117, 795, 769]), (7914, [85, 795, 768]), (7915, [117, 795, 768]), (7916, [85, 795, 777]), (7917, [117, 795, 777]), (7918, [85, 795, 771]),
  (7919, [117, 795, 771]), (7920, [85, 795, 803]), (7921, [117, 795, 803]), (7922, [89, 768]), (7923, [121, 768]), (7924, [89, 803]),
  (7925, [121, 803]), (7926, [89, 777]), (7927, [121, 777]), (7928, [89, 771]), (7929, [121, 771]), (8486, [937]),
  (8488, [90]), (8490, [75]), (8491, [65, 778]), (8544, [73]), (8545, [73, 73]), (8546, [73, 73, 73]),
  (8547, [73, 86]), (8548, [86]), (8549, [86, 73]), (8550, [86, 73, 73]), (8551, [86, 73, 73, 73]), (8552, [73, 88]),
  (8553, [88]), (8554, [88, 73]), (8555, [88, 73, 73]), (8556, [76]), (8557, [67]), (8558, [68]),
  (8559, [77]), (8560, [105]), (8561, [105, 105]), (8562, [105, 105, 105]), (8563, [105, 118]), (8564, [118]),
  (8565, [118, 105]), (8566, [118, 105, 105]), (8567, [118, 105, 105, 105]), (8568, [105, 120]), (8569, [120]), (8570, [120, 105]),
  (8571, [120, 105, 105]), (8572, [108]), (8573, [99]), (8574, [100]), (8575, [109]), (12364, [12363, 12441]),
  (12366, [12365, 12441]), (12368, [12367, 12441]), (12370, [12369, 12441]), (12372, [12371, 12441]), (12374, [12373, 12441]), (12376, [12375, 12441]),
  (12378, [12377, 12441]), (12380, [12379, 12441]), (12382, [12381, 12441]), (12384, [12383, 12441]), (12386, [12385, 12441]), (12389, [12388, 12441]),
  (12391, [12390, 12441]), (12393, [12392, 12441]), (12400, [12399, 12441]), (12460, [12459, 12441]), (12462, [12461, 12441]), (12464, [12463, 12441]),
  (12466, [12465, 12441]), (12468, [12467, 12441]), (12470, [12469, 12441]), (12472, [12471, 12441]), (12474, [12473, 12441]), (12476, [12475, 12441]),
  (12478, [12477, 12441]), (12480, [12479, 12441]), (12482, [12481, 12441]), (12485, [12484, 12441]), (12487, [12486, 12441]), (12489, [12488, 12441]),
  (12496, [12495, 12441]), (64256, [102, 102]), (64257, [102, 105]), (64258, [102, 108]), (64259, [102, 102, 105]), (64260, [102, 102, 108]),
  (64261, [115, 116]), (64262, [115, 116])]
def pairT : List (Int × Int × Int) := [
  (65, 768, 192), (65, 769, 193), (65, 770, 194), (65, 771, 195), (65, 772, 256), (65, 774, 258), (65, 776, 196), (65, 777, 7842),
  (65, 778, 197), (65, 803, 7840), (65, 808, 260), (67, 769, 262), (67, 770, 264), (67, 775, 266), (67, 780, 268), (67, 807, 199),
  (68, 780, 270), (69, 768, 200), (69, 769, 201), (69, 770, 202), (69, 771, 7868), (69, 772, 274), (69, 774, 276), (69, 775, 278),
  (69, 776, 203), (69, 777, 7866), (69, 780, 282), (69, 803, 7864), (69, 808, 280), (71, 770, 284), (71, 774, 286), (71, 775, 288),
  (71, 807, 290), (72, 770, 292), (73, 768, 204), (73, 769, 205), (73, 770, 206), (73, 771, 296), (73, 772, 298), (73, 774, 300),
  (73, 775, 304), (73, 776, 207), (73, 777, 7880), (73, 803, 7882), (73, 808, 302), (74, 770, 308), (75, 807, 310), (76, 769, 313),
  (76, 780, 317), (76, 807, 315), (78, 769, 323), (78, 771, 209), (78, 780, 327), (78, 807, 325), (79, 768, 210), (79, 769, 211),
  (79, 770, 212), (79, 771, 213), (79, 772, 332), (79, 774, 334), (79, 776, 214), (79, 777, 7886), (79, 779, 336), (79, 795, 416),
  (79, 803, 7884), (82, 769, 340), (82, 780, 344), (82, 807, 342), (83, 769, 346), (83, 770, 348), (83, 780, 352), (83, 807, 350),
  (84, 780, 356), (84, 807, 354), (85, 768, 217), (85, 769, 218), (85, 770, 219), (85, 771, 360), (85, 772, 362), (85, 774, 364),
  (85, 776, 220), (85, 777, 7910), (85, 778, 366), (85, 779, 368), (85, 795, 431), (85, 803, 7908), (85, 808, 370), (87, 770, 372),
  (89, 768, 7922), (89, 769, 221), (89, 770, 374), (89, 771, 7928), (89, 776, 376), (89, 777, 7926), (89, 803, 7924), (90, 769, 377),
  (90, 775, 379), (90, 780, 381), (97, 768, 224), (97, 769, 225), (97, 770, 226), (97, 771, 227), (97, 772, 257), (97, 774, 259),
  (97, 776, 228), (97, 777, 7843), (97, 778, 229), (97, 803, 7841), (97, 808, 261), (99, 769, 263), (99, 770, 265), (99, 775, 267),
  (99, 780, 269), (99, 807, 231), (100, 780, 271), (101, 768, 232), (101, 769, 233), (101, 770, 234), (101, 771, 7869), (101, 772, 275),
  (101, 774, 277), (101, 775, 279), (101, 776, 235), (101, 777, 7867), (101, 780, 283), (101, 803, 7865), (101, 808, 281), (103, 770, 285),
  (103, 774, 287), (103, 775, 289), (103, 807, 291), (104, 770, 293), (105, 768, 236), (105, 769, 237), (105, 770, 238), (105, 771, 297),
  (105, 772, 299), (105, 774, 301), (105, 776, 239), (105, 777, 7881), (105, 803, 7883), (105, 808, 303), (106, 770, 309), (107, 807, 311),
  (108, 769, 314), (108, 780, 318), (108, 807, 316), (110, 769, 324), (110, 771, 241), (110, 780, 328), (110, 807, 326), (111, 768, 242),
  (111, 769, 243), (111, 770, 244), (111, 771, 245), (111, 772, 333), (111, 774, 335), (111, 776, 246), (111, 777, 7887), (111, 779, 337),
  (111, 795, 417), (111, 803, 7885), (114, 769, 341), (114, 780, 345), (114, 807, 343), (115, 769, 347), (115, 770, 349), (115, 780, 353),
  (115, 807, 351), (116, 780, 357), (116, 807, 355), (117, 768, 249), (117, 769, 250), (117, 770, 251), (117, 771, 361), (117, 772, 363),
  (117, 774, 365), (117, 776, 252), (117, 777, 7911), (117, 778, 367), (117, 779, 369), (117, 795, 432), (117, 803, 7909), (117, 808, 371),
  (119, 770, 373), (121, 768, 7923), (121, 769, 253), (121, 770, 375), (121, 771, 7929), (121, 776, 255), (121, 777, 7927), (121, 803, 7925),
  (122, 769, 378), (122, 775, 380), (122, 780, 382), (194, 768, 7846), (194, 769, 7844), (194, 771, 7850), (194, 777, 7848), (202, 768, 7872),
  (202, 769, 7870), (202, 771, 7876), (202, 777, 7874), (212, 768, 7890), (212, 769, 7888), (212, 771, 7894), (212, 777, 7892), (226, 768, 7847),
  (226, 769, 7845), (226, 771, 7851), (226, 777, 7849), (234, 768, 7873), (234, 769, 7871), (234, 771, 7877), (234, 777, 7875), (244, 768, 7891),
  (244, 769, 7889), (244, 771, 7895), (244, 777, 7893), (258, 768, 7856), (258, 769, 7854), (258, 771, 7860), (258, 777, 7858), (259, 768, 7857),
  (259, 769, 7855), (259, 771, 7861), (259, 777, 7859), (416, 768, 7900), (416, 769, 7898), (416, 771, 7904), (416, 777, 7902), (416, 803, 7906),
  (417, 768, 7901), (417, 769, 7899), (417, 771, 7905), (417, 777, 7903), (417, 803, 7907), (431, 768, 7914), (431, 769, 7912), (431, 771, 7918),
  (431, 777, 7916), (431, 803, 7920), (432, 768, 7915), (432, 769, 7913), (432, 771, 7919), (432, 777, 7917), (432, 803, 7921), (913, 769, 902),
  (917, 769, 904), (919, 769, 905), (921, 769, 906), (921, 776, 938), (927, 769, 908), (933, 769, 910), (933, 776, 939), (937, 769, 911),
  (945, 769, 940), (949, 769, 941), (951, 769, 942), (953, 769, 943), (953, 776, 970), (959, 769, 972), (965, 769, 973), (965, 776, 971),
  (969, 769, 974), (970, 769, 912), (971, 769, 944), (7840, 770, 7852), (7840, 774, 7862), (7841, 770, 7853), (7841, 774, 7863), (7864, 770, 7878),
  (7865, 770, 7879), (7884, 770, 7896), (7885, 770, 7897), (12363, 12441, 12364), (12365, 12441, 12366), (12367, 12441, 12368), (12369, 12441, 12370), (12371, 12441, 12372),
  (12373, 12441, 12374), (12375, 12441, 12376), (12377, 12441, 12378), (12379, 12441, 12380), (12381, 12441, 12382), (12383, 12441, 12384), (12385, 12441, 12386), (12388, 12441, 12389),
  (12390, 12441, 12391), (12392, 12441, 12393), (12399, 12441, 12400), (12459, 12441, 12460), (12461, 12441, 12462), (12463, 12441, 12464), (12465, 12441, 12466), (12467, 12441, 12468),
  (12469, 12441, 12470), (12471, 12441, 12472), (12473, 12441, 12474), (12475, 12441, 12476), (12477, 12441, 12478), (12479, 12441, 12480), (12481, 12441, 12482), (12484, 12441, 12485),
  (12486, 12441, 12487), (12488, 12441, 12489), (12495, 12441, 12496)]
def caseT : List (Int × List Int) := [
  (65, [97]), (66, [98]), (67, [99]), (68, [100]), (69, [101]), (70, [102]),
  (71, [103]), (72, [104]), (73, [105]), (74, [106]), (75, [107]), (76, [108]),
  (77, [109]), (78, [110]), (79, [111]), (80, [112]), (81, [113]), (82, [114]),
  (83, [115]), (84, [116]), (85, [117]), (86, [118]), (87, [119]), (88, [120]),
  (89, [121]), (90, [122]), (181, [956]), (192, [224]), (193, [225]), (194, [226]),
  (195, [227]), (196, [228]), (197, [229]), (198, [230]), (199, [231]), (200, [232]),
  (201, [233]), (202, [234]), (203, [235]), (204, [236]), (205, [237]), (206, [238]),
  (207, [239]), (208, [240]), (209, [241]), (210, [242]), (211, [243]), (212, [244]),
  (213, [245]), (214, [246]), (216, [248]), (217, [249]), (218, [250]), (219, [251]),
  (220, [252]), (221, [253]), (222, [254]), (223, [115, 115]), (256, [257]), (258, [259]),
  (260, [261]), (262, [263]), (264, [265]), (266, [267]), (268, [269]), (270, [271]),
  (272, [273]), (274, [275]), (276, [277]), (278, [279]), (280, [281]), (282, [283]),
  (284, [285]), (286, [287]), (288, [289]), (290, [291]), (292, [293]), (294, [295]),
  (296, [297]), (298, [299]), (300, [301]), (302, [303]), (304, [105, 775]), (306, [307]),
  (308, [309]), (310, [311]), (313, [314]), (315, [316]), (317, [318]), (319, [320]),
  (321, [322]), (323, [324]), (325, [326]), (327, [328]), (329, [700, 110]), (330, [331]),
  (332, [333]), (334, [335]), (336, [337]), (338, [339]), (340, [341]), (342, [343]),
  (344, [345]), (346, [347]), (348, [349]), (350, [351]), (352, [353]), (354, [355]),
  (356, [357]), (358, [359]), (360, [361]), (362, [363]), (364, [365]), (366, [367]),
  (368, [369]), (370, [371]), (372, [373]), (374, [375]), (376, [255]), (377, [378]),
  (379, [380]), (381, [382]), (383, [115]), (416, [417]), (418, [419]), (420, [421]),
  (422, [640]), (423, [424]), (425, [643]), (428, [429]), (430, [648]), (431, [432]),
  (837, [953]), (902, [940]), (904, [941]), (905, [942]), (906, [943]), (908, [972]),
  (910, [973]), (911, [974]), (912, [953, 776, 769]), (913, [945]), (914, [946]), (915, [947]),
  (916, [948]), (917, [949]), (918, [950]), (919, [951]), (920, [952]), (921, [953]),
  (922, [954]), (923, [955]), (924, [956]), (925, [957]), (926, [958]), (927, [959]),
  (928, [960]), (929, [961]), (931, [963]), (932, [964]), (933, [965]), (934, [966]),
  (935, [967]), (936, [968]), (937, [969]), (938, [970]), (939, [971]), (944, [965, 776, 769]),
  (962, [963]), (7840, [7841]), (7842, [7843]), (7844, [7845]), (7846, [7847]), (7848, [7849]),
  (7850, [7851]), (7852, [7853]), (7854, [7855]), (7856, [7857]), (7858, [7859]), (7860, [7861]),
  (7862, [7863]), (7864, [7865]), (7866, [7867]), (7868, [7869]), (7870, [7871]), (7872, [7873]),
  (7874, [7875]), (7876, [7877]), (7878, [7879]), (7880, [7881]), (7882, [7883]), (7884, [7885]),
  (7886, [7887]), (7888, [7889]), (7890, [7891]), (7892, [7893]), (7894, [7895]), (7896, [7897]),
  (7898, [7899]), (7900, [7901]), (7902, [7903]), (7904, [7905]), (7906, [7907]), (7908, [7909]),
  (7910, [7911]), (7912, [7913]), (7914, [7915]), (7916, [7917]), (7918, [7919]), (7920, [7921]),
  (7922, [7923]), (7924, [7925]), (7926, [7927]), (7928, [7929])]

/-! ### what the tables answer -/
def look : List (Int × Int × Int) → Int → Option Int
  | [], _ => none
  | (lo, hi, v) :: t, r => if lo ≤ r ∧ r ≤ hi then some v else look t r
def assoc {α : Type} : List (Int × α) → Int → Option α
  | [], _ => none
  | (k, v) :: t, r => if k = r then some v else assoc t r
def assoc2 : List (Int × Int × Int) → Int → Int → Option Int
  | [], _, _ => none
  | (x, y, v) :: t, a, b => if x = a ∧ y = b then some v else assoc2 t a b
def revp : List (Int × Int × Int) → Int → Option (Int × Int)
  | [], _ => none
  | (x, y, v) :: t, r => if v = r then some (x, y) else revp t r

def ccc (r : Int) : Int := (look clsT r).getD 0
def drops (r : Int) : Bool := (look drpT r).isSome
def gcb (r : Int) : Int := if 44032 ≤ r ∧ r ≤ 55203 then (if (r - 44032) % 28 = 0 then 12 else 13) else (look kinT r).getD 0
def syl (s : Int) : List Int := [4352 + s / 588, 4449 + s % 588 / 28] ++ (if s % 28 = 0 then [] else [4519 + s % 28])
def full (r : Int) : List Int :=
  if 44032 ≤ r ∧ r ≤ 55203 then syl (r - 44032) else if 65281 ≤ r ∧ r ≤ 65374 then [r - 65248] else (assoc decT r).getD [r]
def isD (r : Int) : Bool := !(full r == [r])
def join (a b : Int) : Option Int :=
  if (4352 ≤ a ∧ a ≤ 4370) ∧ 4449 ≤ b ∧ b ≤ 4469 then some (44032 + ((a - 4352) * 21 + (b - 4449)) * 28)
  else if ((44032 ≤ a ∧ a ≤ 55203) ∧ (a - 44032) % 28 = 0) ∧ 4520 ≤ b ∧ b ≤ 4546 then some (a + b - 4519)
  else assoc2 pairT a b
def back (r : Int) : Option (Int × Int) :=
  if 44032 ≤ r ∧ r ≤ 55203 then (if (r - 44032) % 28 = 0 then some (4352 + (r - 44032) / 588, 4449 + (r - 44032) % 588 / 28) else some (r - (r - 44032) % 28, 4519 + (r - 44032) % 28))
  else revp pairT r
def foldc (r : Int) : List Int := (assoc caseT r).getD [r]
def good (r : Int) : Bool := decide (0 ≤ r ∧ r ≤ 1114111 ∧ (r < 55296 ∨ 57343 < r))

/-! ### finding in a list -/
theorem look_mem {t : List (Int × Int × Int)} {r v : Int} (h : look t r = some v) : ∃ lo hi, (lo, hi, v) ∈ t ∧ lo ≤ r ∧ r ≤ hi := by
  induction t with
  | nil => simp [look] at h
  | cons x t ih =>
    obtain ⟨lo, hi, u⟩ := x
    simp only [look] at h
    split at h
    · rename_i c; cases h; exact ⟨lo, hi, by simp, c.1, c.2⟩
    · obtain ⟨a, b, hm, h1, h2⟩ := ih h; exact ⟨a, b, by simp [hm], h1, h2⟩
theorem look_none {t : List (Int × Int × Int)} {r : Int} (h : ∀ x ∈ t, r < x.1 ∨ x.2.1 < r) : look t r = none := by
  induction t with
  | nil => rfl
  | cons x t ih =>
    obtain ⟨lo, hi, u⟩ := x
    have := h (lo, hi, u) (by simp)
    simp only [look]
    rw [if_neg (by simp at this; omega)]
    exact ih fun y hy => h y (by simp [hy])
theorem assoc_mem {α : Type} {t : List (Int × α)} {r : Int} {v : α} (h : assoc t r = some v) : (r, v) ∈ t := by
  induction t with
  | nil => simp [assoc] at h
  | cons x t ih =>
    obtain ⟨k, u⟩ := x
    simp only [assoc] at h
    split at h
    · rename_i c; cases h; subst c; simp
    · simp [ih h]
theorem assoc_none {α : Type} {t : List (Int × α)} {r : Int} (h : ∀ x ∈ t, x.1 ≠ r) : assoc t r = none := by
  induction t with
  | nil => rfl
  | cons x t ih =>
    obtain ⟨k, u⟩ := x
    simp only [assoc]
    rw [if_neg (h (k, u) (by simp))]
    exact ih fun y hy => h y (by simp [hy])
theorem assoc2_mem {t : List (Int × Int × Int)} {a b v : Int} (h : assoc2 t a b = some v) : (a, b, v) ∈ t := by
  induction t with
  | nil => simp [assoc2] at h
  | cons x t ih =>
    obtain ⟨p, q, u⟩ := x
    simp only [assoc2] at h
    split at h
    · rename_i c; cases h; obtain ⟨rfl, rfl⟩ := c; simp
    · simp [ih h]
theorem assoc2_none {t : List (Int × Int × Int)} {a b : Int} (h : ∀ x ∈ t, ¬ (x.1 = a ∧ x.2.1 = b)) : assoc2 t a b = none := by
  induction t with
  | nil => rfl
  | cons x t ih =>
    obtain ⟨p, q, u⟩ := x
    simp only [assoc2]
    rw [if_neg (h (p, q, u) (by simp))]
    exact ih fun y hy => h y (by simp [hy])
theorem revp_mem {t : List (Int × Int × Int)} {r a b : Int} (h : revp t r = some (a, b)) : (a, b, r) ∈ t := by
  induction t with
  | nil => simp [revp] at h
  | cons x t ih =>
    obtain ⟨p, q, u⟩ := x
    simp only [revp] at h
    split at h
    · rename_i c; cases h; subst c; simp
    · simp [ih h]
theorem all_mem {α : Type} {t : List α} {p : α → Bool} (h : t.all p = true) {x : α} (hx : x ∈ t) : p x = true := List.all_eq_true.1 h x hx

/-! ### classes -/
theorem clsT_ok : clsT.all (fun x => decide (768 ≤ x.1) && decide (x.2.1 ≤ 12442) && decide (1 ≤ x.2.2) && decide (x.2.2 ≤ 240) && (decide (x.2.1 < 4352) || decide (4546 < x.1)) ) = true := by decide +kernel
theorem ccc_range (r : Int) : 0 ≤ ccc r ∧ ccc r ≤ 240 := by
  unfold ccc
  cases h : look clsT r with
  | none => simp
  | some v =>
    obtain ⟨lo, hi, hm, _, _⟩ := look_mem h
    have := all_mem clsT_ok hm
    simp at this ⊢; omega
theorem ccc_nonneg (r : Int) : 0 ≤ ccc r := (ccc_range r).1
theorem ccc_zero_of {r : Int} (h : r < 768 ∨ 12442 < r ∨ (4352 ≤ r ∧ r ≤ 4546)) : ccc r = 0 := by
  unfold ccc
  rw [look_none]; · rfl
  intro x hx
  have := all_mem clsT_ok hx
  simp at this; omega
theorem ccc_joiner : ccc 847 = 0 := by decide +kernel

/-! ### what values are made of -/
theorem decT_keys : decT.all (fun x => decide (160 ≤ x.1) && (decide (x.1 < 4352) || decide (4546 < x.1)) && (decide (x.1 < 44032) || decide (55203 < x.1)) && decide (x.1 ≠ 847) && decide (x.1 ≤ 64262)) = true := by decide +kernel
theorem full_plain {r : Int} (h : r < 160 ∨ (4352 ≤ r ∧ r ≤ 4546) ∨ r = 847) : full r = [r] := by
  unfold full
  rw [if_neg (by omega), if_neg (by omega), assoc_none]; · rfl
  intro x hx
  have := all_mem decT_keys hx
  simp at this; omega
theorem decT_ok : decT.all (fun x => x.2.all (fun y => full y == [y]) && decide (1 ≤ x.2.length) && decide (x.2.length ≤ 4)) = true := by decide +kernel
/-- What a value is made of: a syllable's parts, a wide letter's plain one, a row's values, or itself. -/
theorem full_cases (r : Int) : (44032 ≤ r ∧ r ≤ 55203 ∧ full r = syl (r - 44032)) ∨ (65281 ≤ r ∧ r ≤ 65374 ∧ full r = [r - 65248]) ∨ ((r, full r) ∈ decT) ∨ (full r = [r]) := by
  unfold full
  split
  · rename_i h; exact .inl ⟨h.1, h.2, rfl⟩
  · split
    · rename_i h; exact .inr (.inl ⟨h.1, h.2, rfl⟩)
    · cases h : assoc decT r with
      | none => exact .inr (.inr (.inr rfl))
      | some l => exact .inr (.inr (.inl (assoc_mem h)))
theorem syl_parts {s x : Int} (h0 : 0 ≤ s) (h1 : s ≤ 11171) (hx : x ∈ syl s) : 4352 ≤ x ∧ x ≤ 4546 := by
  unfold syl at hx
  split at hx <;> simp at hx <;> omega
/-- P4.2: what something is made of is made of nothing else. -/
theorem full_full {r x : Int} (hx : x ∈ full r) : full x = [x] := by
  rcases full_cases r with ⟨h0, h1, h⟩ | ⟨h0, h1, h⟩ | h | h
  · rw [h] at hx; have := syl_parts (by omega) (by omega) hx; exact full_plain (.inr (.inl this))
  · rw [h] at hx; simp at hx; exact full_plain (.inl (by omega))
  · have := all_mem decT_ok h
    simp only [Bool.and_eq_true, List.all_eq_true, beq_iff_eq] at this
    exact this.1.1 x hx
  · rw [h] at hx; simp at hx; rw [hx]; exact h
theorem full_length (r : Int) : 1 ≤ (full r).length ∧ (full r).length ≤ 4 := by
  rcases full_cases r with ⟨h0, h1, h⟩ | ⟨h0, h1, h⟩ | h | h
  · rw [h]; unfold syl; split <;> simp
  · rw [h]; simp
  · have := all_mem decT_ok h
    simp at this; omega
  · rw [h]; simp
theorem full_ne_nil (r : Int) : full r ≠ [] := by
  intro h; have := full_length r; rw [h] at this; simp at this

end Go.Proofs.Pt
end

/- ==== the text M13 ==== -/
section
/- The text of the table of what values are made of: a value's digits, and what is found behind them in the text. No program is in sight here. -/
namespace Go.Proofs.Pt
open Go

/-! ### digits -/
def hexD (n : Nat) : UInt8 := if n < 10 then UInt8.ofNat (48 + n) else UInt8.ofNat (55 + n)
def hexF : Nat → Nat → List UInt8
  | 0, _ => []
  | f + 1, n => if n < 16 then [hexD n] else hexF f (n / 16) ++ [hexD (n % 16)]
def hexU (n : Nat) : List UInt8 := hexF 16 n
def code (n : Nat) : List UInt8 := List.replicate (4 - (hexU n).length) 48 ++ hexU n
def hexV (c : UInt8) : Nat := if c.toNat ≤ 57 then c.toNat - 48 else c.toNat - 55
def parseH (l : List UInt8) : Nat := l.foldl (fun n c => n * 16 + hexV c) 0
/-- A digit: 0 to 9, A to F. -/
def isHex (c : UInt8) : Bool := (decide (48 ≤ c.toNat) && decide (c.toNat ≤ 57)) || (decide (65 ≤ c.toNat) && decide (c.toNat ≤ 70))
theorem hexD_all : ∀ n : Fin 16, hexV (hexD n) = n ∧ isHex (hexD n) = true := by decide +kernel
theorem hexV_hexD {n : Nat} (h : n < 16) : hexV (hexD n) = n := (hexD_all ⟨n, h⟩).1
theorem isHex_hexD {n : Nat} (h : n < 16) : isHex (hexD n) = true := (hexD_all ⟨n, h⟩).2
theorem hexF_isHex : ∀ (f n : Nat), ∀ x ∈ hexF f n, isHex x = true
  | 0, _ => by simp [hexF]
  | f + 1, n => by
    intro x hx
    simp only [hexF] at hx
    split at hx
    · simp at hx; rw [hx]; exact isHex_hexD (by assumption)
    · rcases List.mem_append.1 hx with h | h
      · exact hexF_isHex f _ x h
      · simp at h; rw [h]; exact isHex_hexD (Nat.mod_lt _ (by decide))
theorem code_isHex (n : Nat) : ∀ x ∈ code n, isHex x = true := by
  intro x hx
  rcases List.mem_append.1 hx with h | h
  · rw [(List.mem_replicate.1 h).2]; decide
  · exact hexF_isHex 16 n x h
theorem hexF_parse : ∀ (f n a : Nat), n < 16 ^ f → (hexF f n).foldl (fun n c => n * 16 + hexV c) a = a * 16 ^ (hexF f n).length + n
  | 0, n, a, h => by simp at h; subst h; simp [hexF]
  | f + 1, n, a, h => by
    simp only [hexF]
    split
    · rename_i hn; simp [hexV_hexD hn]
    · have h1 : n / 16 < 16 ^ f := by rw [Nat.pow_succ] at h; exact Nat.div_lt_of_lt_mul (by omega)
      rw [List.foldl_append, hexF_parse f (n / 16) a h1]
      simp only [List.foldl_cons, List.foldl_nil, List.length_append, List.length_cons, List.length_nil, Nat.zero_add]
      rw [hexV_hexD (Nat.mod_lt _ (by decide)), Nat.pow_succ, Nat.add_mul, Nat.mul_assoc]
      omega
theorem zeros_parse : ∀ k : Nat, (List.replicate k (48 : UInt8)).foldl (fun n c => n * 16 + hexV c) 0 = 0
  | 0 => rfl
  | k + 1 => by rw [List.replicate_succ, List.foldl_cons]; exact zeros_parse k
theorem parse_code {n : Nat} (h : n < 16 ^ 16) : parseH (code n) = n := by
  unfold parseH code
  rw [List.foldl_append, zeros_parse]
  unfold hexU
  rw [hexF_parse 16 n 0 h]; omega
theorem code_inj {n m : Nat} (hn : n < 16 ^ 16) (hm : m < 16 ^ 16) (h : code n = code m) : n = m := by
  rw [← parse_code hn, ← parse_code hm, h]
theorem hexF_ne (f n : Nat) : hexF (f + 1) n ≠ [] := by simp only [hexF]; split <;> simp
theorem code_ne (n : Nat) : code n ≠ [] := by unfold code hexU; simp [hexF_ne]
theorem isHex_not {x c : UInt8} (h : isHex x = true) (hc : isHex c = false) : x ≠ c := by rintro rfl; rw [h] at hc; cases hc

/-! ### cutting -/
theorem cut_miss {b : UInt8} {l p : List UInt8} (h : p.isPrefixOf (b :: l) = false) : (Lib.cut (b :: l) p).2 = (Lib.cut l p).2 := by
  have e : Lib.index (b :: l) p = if Lib.index l p == -1 then -1 else Lib.index l p + 1 := by rw [Lib.index, h]; rfl
  have g := Lib.index_ge l p
  unfold Lib.cut
  rw [e]
  by_cases hm : Lib.index l p = -1
  · rw [hm]; rfl
  · have hb : (Lib.index l p == -1) = false := by simpa using hm
    rw [hb]
    simp only [Bool.false_eq_true, if_false]
    rw [if_pos (by omega), if_pos (by omega)]
    obtain ⟨i, hi⟩ : ∃ i : Nat, Lib.index l p = i := ⟨(Lib.index l p).toNat, by omega⟩
    rw [hi]
    have : ((i : Int) + 1).toNat + p.length = ((i : Int).toNat + p.length) + 1 := by omega
    rw [this]; rfl
theorem cut_hit {b : UInt8} {l p : List UInt8} (h : p.isPrefixOf (b :: l) = true) : Lib.cut (b :: l) p = ([], (b :: l).drop p.length, true) := by
  have e : Lib.index (b :: l) p = 0 := by rw [Lib.index, h]; rfl
  unfold Lib.cut
  rw [e]; simp
theorem cut_past (c : UInt8) (p : List UInt8) : ∀ (m l : List UInt8), (∀ x ∈ m, x ≠ c) → (Lib.cut (m ++ l) (c :: p)).2 = (Lib.cut l (c :: p)).2
  | [], _, _ => rfl
  | x :: m, l, h => by
    rw [List.cons_append, cut_miss, cut_past c p m l fun y hy => h y (by simp [hy])]
    have := h x (by simp)
    simp [List.isPrefixOf, Ne.symm this]
theorem cut_one (c : UInt8) : ∀ (m l : List UInt8), (∀ x ∈ m, x ≠ c) → (Lib.cut (m ++ c :: l) [c]).1 = m
  | [], l, _ => by rw [List.nil_append, cut_hit (by simp [List.isPrefixOf])]
  | x :: m, l, h => by
    have hx := h x (by simp)
    have ih := cut_one c m l fun y hy => h y (by simp [hy])
    have e : Lib.index (x :: (m ++ c :: l)) [c] = if Lib.index (m ++ c :: l) [c] == -1 then -1 else Lib.index (m ++ c :: l) [c] + 1 := by
      rw [Lib.index, if_neg (by simp [List.isPrefixOf, Ne.symm hx])]
    have g := Lib.index_ge (m ++ c :: l) [c]
    unfold Lib.cut at ih ⊢
    rw [List.cons_append, e]
    by_cases hm : Lib.index (m ++ c :: l) [c] = -1
    · rw [hm] at ih
      simp at ih
    · have hb : (Lib.index (m ++ c :: l) [c] == -1) = false := by simpa using hm
      rw [hb]
      simp only [Bool.false_eq_true, if_false]
      rw [if_pos (by omega)] at ih ⊢
      obtain ⟨i, hi⟩ : ∃ i : Nat, Lib.index (m ++ c :: l) [c] = i := ⟨(Lib.index (m ++ c :: l) [c]).toNat, by omega⟩
      rw [hi] at ih ⊢
      have e2 : ((i : Int) + 1).toNat = (i : Int).toNat + 1 := by omega
      rw [e2, List.take_succ_cons]
      exact congrArg (x :: ·) ih

/-! ### the table's text -/
def inter : List Int → List UInt8
  | [] => []
  | [v] => code v.toNat
  | v :: w :: vs => code v.toNat ++ 44 :: inter (w :: vs)
def entryB (x : Int × List Int) : List UInt8 := 32 :: (code x.1.toNat ++ 61 :: inter x.2)
def tabB (t : List (Int × List Int)) : List UInt8 := t.flatMap entryB ++ [32]
theorem tabB_cons (x : Int × List Int) (t : List (Int × List Int)) : tabB (x :: t) = 32 :: (code x.1.toNat ++ 61 :: (inter x.2 ++ tabB t)) := by
  simp [tabB, entryB]
theorem tabB_head (t : List (Int × List Int)) : ∃ r, tabB t = 32 :: r := by
  cases t with
  | nil => exact ⟨[], rfl⟩
  | cons x t => exact ⟨_, tabB_cons x t⟩
theorem inter_no (vs : List Int) : ∀ x ∈ inter vs, x ≠ 32 ∧ x ≠ 61 := by
  induction vs with
  | nil => simp [inter]
  | cons v vs ih =>
    have hc : ∀ x ∈ code v.toNat, x ≠ 32 ∧ x ≠ 61 := fun x hx => ⟨isHex_not (code_isHex _ x hx) (by decide), isHex_not (code_isHex _ x hx) (by decide)⟩
    cases vs with
    | nil => exact hc
    | cons w vs =>
      intro x hx
      simp only [inter] at hx
      rcases List.mem_append.1 hx with h | h
      · exact hc x h
      · rcases List.mem_cons.1 h with rfl | h
        · decide
        · exact ih x h
def keyB (r : Nat) : List UInt8 := 32 :: (code r ++ [61])
theorem pre_eq : ∀ (c k w : List UInt8), (∀ x ∈ c, x ≠ 61) → (∀ x ∈ k, x ≠ 61) → (c ++ [61]).isPrefixOf (k ++ 61 :: w) = true → c = k
  | [], [], _, _, _, _ => rfl
  | [], x :: k, w, _, hk, h => by
    have := hk x (by simp)
    simp [List.isPrefixOf, Ne.symm this] at h
  | x :: c, [], w, hc, _, h => by
    have := hc x (by simp)
    simp [List.isPrefixOf, this] at h
  | x :: c, y :: k, w, hc, hk, h => by
    simp only [List.cons_append, List.isPrefixOf, Bool.and_eq_true, beq_iff_eq] at h
    rw [h.1, pre_eq c k w (fun z hz => hc z (by simp [hz])) (fun z hz => hk z (by simp [hz])) h.2]
theorem pre_self : ∀ (c w : List UInt8), (c ++ [61]).isPrefixOf (c ++ 61 :: w) = true
  | [], w => by simp [List.isPrefixOf]
  | x :: c, w => by simp only [List.cons_append, List.isPrefixOf, beq_self_eq_true, Bool.true_and]; exact pre_self c w
theorem code_no61 (n : Nat) : ∀ x ∈ code n, x ≠ 61 := fun x hx => isHex_not (code_isHex n x hx) (by decide)
theorem code_no32 (n : Nat) : ∀ x ∈ code n, x ≠ 32 := fun x hx => isHex_not (code_isHex n x hx) (by decide)
/-- What is found in the table's text behind a value's digits. -/
theorem tab_found (r : Nat) (hr : r < 16 ^ 16) : ∀ (t : List (Int × List Int)), (∀ x ∈ t, 0 ≤ x.1 ∧ x.1 ≤ 1114111) →
    (∀ vs, assoc t (r : Int) = some vs → ∃ rest, (Lib.cut (tabB t) (keyB r)).2 = (inter vs ++ 32 :: rest, true)) ∧ (assoc t (r : Int) = none → (Lib.cut (tabB t) (keyB r)).2 = ([], false))
  | [], _ => by
    refine ⟨fun vs h => by simp [assoc] at h, fun _ => ?_⟩
    have e : tabB [] = 32 :: [] := rfl
    rw [e, cut_miss]
    · rfl
    · unfold keyB
      cases h : code r with
      | nil => exact absurd h (code_ne r)
      | cons x l => simp [List.isPrefixOf]
  | (k, ws) :: t, ht => by
    obtain ⟨ih1, ih2⟩ := tab_found r hr t fun x hx => ht x (by simp [hx])
    have hk := ht (k, ws) (by simp)
    simp only at hk
    have hkey : code k.toNat = code r ↔ k = (r : Int) := by
      constructor
      · intro h; have := code_inj (by omega) hr h; omega
      · rintro rfl; simp
    simp only [assoc]
    rw [tabB_cons]
    simp only
    by_cases e : k = (r : Int)
    · have hc : code k.toNat = code r := hkey.2 e
      rw [if_pos e]
      refine ⟨fun vs h => ?_, fun h => by cases h⟩
      cases h
      obtain ⟨rest, hrest⟩ := tabB_head t
      refine ⟨rest, ?_⟩
      rw [cut_hit (by rw [hc]; unfold keyB; simp only [List.isPrefixOf, beq_self_eq_true, Bool.true_and]; exact pre_self _ _)]
      have hl : (keyB r).length = (code r).length + 2 := by simp [keyB]
      rw [hl, hrest, hc]
      simp only [Prod.mk.injEq, and_true]
      rw [List.drop_succ_cons, List.drop_append]
      simp
    · have hc : code k.toNat ≠ code r := fun h => e (hkey.1 h)
      rw [if_neg e, cut_miss]
      · have h1 : (Lib.cut (code k.toNat ++ 61 :: (inter ws ++ tabB t)) (keyB r)).2 = (Lib.cut (tabB t) (keyB r)).2 := by
          have : code k.toNat ++ 61 :: (inter ws ++ tabB t) = (code k.toNat ++ 61 :: inter ws) ++ tabB t := by simp
          rw [this]
          unfold keyB
          refine cut_past 32 _ _ _ ?_
          intro x hx
          rcases List.mem_append.1 hx with h | h
          · exact code_no32 _ x h
          · rcases List.mem_cons.1 h with rfl | h
            · decide
            · exact (inter_no ws x h).1
        rw [h1]
        exact ⟨ih1, ih2⟩
      · cases h : (keyB r).isPrefixOf (32 :: (code k.toNat ++ 61 :: (inter ws ++ tabB t))) with
        | false => rfl
        | true =>
          unfold keyB at h
          simp only [List.isPrefixOf, beq_self_eq_true, Bool.true_and] at h
          exact absurd (pre_eq _ _ _ (code_no61 r) (code_no61 _) h).symm hc
theorem decT_small : decT.all (fun x => decide (0 ≤ x.1) && decide (x.1 ≤ 1114111) && decide (Lib.split (inter x.2) [44] = x.2.map fun v => code v.toNat) && x.2.all (fun v => decide (0 ≤ v) && decide (v ≤ 65535) && decide ((code v.toNat).length = 4))) = true := by decide +kernel
/-- Of a plain value: what the search in the text tells of it. -/
theorem dec_found {r : Nat} (hr : r < 16 ^ 16) {vs : List Int} (h : assoc decT (r : Int) = some vs) : ∃ rest, (Lib.cut (tabB decT) (keyB r)).2 = (inter vs ++ 32 :: rest, true) :=
  (tab_found r hr decT fun x hx => by have := all_mem decT_small hx; simp only [Bool.and_eq_true, decide_eq_true_eq] at this; exact ⟨this.1.1.1, this.1.1.2⟩).1 vs h
theorem dec_missed {r : Nat} (hr : r < 16 ^ 16) (h : assoc decT (r : Int) = none) : (Lib.cut (tabB decT) (keyB r)).2 = ([], false) :=
  (tab_found r hr decT fun x hx => by have := all_mem decT_small hx; simp only [Bool.and_eq_true, decide_eq_true_eq] at this; exact ⟨this.1.1.1, this.1.1.2⟩).2 h
theorem inter_cut (vs : List Int) (rest : List UInt8) : (Lib.cut (inter vs ++ 32 :: rest) [32]).1 = inter vs := cut_one 32 _ _ fun x hx => (inter_no vs x hx).1
structure RowOk (vs : List Int) : Prop where
  split : Lib.split (inter vs) [44] = vs.map fun v => code v.toNat
  each : ∀ v ∈ vs, 0 ≤ v ∧ v ≤ 65535 ∧ (code v.toNat).length = 4
theorem row_ok {r : Int} {vs : List Int} (h : assoc decT r = some vs) : RowOk vs := by
  have := all_mem decT_small (assoc_mem h)
  simp only [Bool.and_eq_true, decide_eq_true_eq, List.all_eq_true] at this
  exact ⟨this.1.2, fun v hv => by have := this.2 v hv; exact ⟨this.1.1, this.1.2, this.2⟩⟩
/-- Small digits: as the library writes them, before they are made great ones. -/
def hexDl (n : Nat) : UInt8 := if n < 10 then UInt8.ofNat (48 + n) else UInt8.ofNat (87 + n)
def hexFl : Nat → Nat → List UInt8
  | 0, _ => []
  | f + 1, n => if n < 16 then [hexDl n] else hexFl f (n / 16) ++ [hexDl (n % 16)]
theorem hexDl_all : ∀ n : Fin 16, Lib.upperB (hexDl n) = hexD n ∧ (hexDl n).toNat < 128 := by decide +kernel
theorem hexFl_upper : ∀ (f n : Nat), Lib.toUpperA (hexFl f n) = hexF f n
  | 0, _ => rfl
  | f + 1, n => by
    simp only [hexFl, hexF]
    split
    · rename_i h; simp [Lib.toUpperA, (hexDl_all ⟨n, h⟩).1]
    · have := hexFl_upper f (n / 16)
      unfold Lib.toUpperA at this ⊢
      rw [List.map_append, this]
      simp [(hexDl_all ⟨n % 16, Nat.mod_lt _ (by decide)⟩).1]
theorem hexFl_ascii : ∀ (f n : Nat), ∀ x ∈ hexFl f n, x.toNat < 128
  | 0, _ => by simp [hexFl]
  | f + 1, n => by
    intro x hx
    simp only [hexFl] at hx
    split at hx
    · rename_i h; simp at hx; rw [hx]; exact (hexDl_all ⟨n, h⟩).2
    · rcases List.mem_append.1 hx with h | h
      · exact hexFl_ascii f _ x h
      · simp at h; rw [h]; exact (hexDl_all ⟨n % 16, Nat.mod_lt _ (by decide)⟩).2
theorem hexFl_length : ∀ (f n : Nat), (hexFl f n).length = (hexF f n).length
  | 0, _ => rfl
  | f + 1, n => by simp only [hexFl, hexF]; split <;> simp [hexFl_length f]
theorem hexF_length : ∀ (f n : Nat), (hexF f n).length ≤ f
  | 0, _ => by simp [hexF]
  | f + 1, n => by simp only [hexF]; split <;> simp [hexF_length f]
end Go.Proofs.Pt
end

/- ==== the text W20 ==== -/
section
/- The walks of the library's digits: a number's hexadecimal digits, as the library writes them. -/
namespace Go.Proofs.Pt
open Go Go.RowKit

/-- What the library's own variables hold: any number as the longest search; of the table of trailing zeros the place that 16 is told by. -/
structure Vars (w : World) : Prop where
  maxlen : ∃ m, w.cell? ⟨0, 0, none⟩ = some (.int .i64 m)
  tz : w.cell? ⟨8, 15, none⟩ = some (.int .u8 4)
theorem Vars.below {w w' : World} (h : Vars w) (hb : Below w.heap.size w w') : Vars w' := by
  obtain ⟨m, hm⟩ := h.maxlen
  exact ⟨⟨m, (hb.cell (World.block_lt_of_cell? _ _ hm)).trans hm⟩, (hb.cell (World.block_lt_of_cell? _ _ h.tz)).trans h.tz⟩

theorem tz64_any (w : World) (h : Vars w) : Calls Tryz.prog 185 #[.int .u64 16] w fun e w' => e = .returned (.int .i64 4) ∧ w' = w := by
  have ht := h.tz
  clear h
  have e0 : IntKind.u64.wrap (bits BinOp.and IntKind.u64 16 (IntKind.u64.wrap (-16)) * 285870213051353865) / 288230376151711744 = 15 := by decide +kernel
  go_enter Tryz.func185, Tryz.ntmps185
  go_wp2
  go_ret
  exact ⟨rfl, rfl⟩
theorem tz_any (w : World) (h : Vars w) : Calls Tryz.prog 170 #[.int .u64 16] w fun e w' => e = .returned (.int .i64 4) ∧ w' = w := by
  have HV := Lib.hid h; clear h
  go_enter Tryz.func170, Tryz.ntmps170
  go_wp2_with (go_at_call 185; refine (tz64_any _ HV.out).mono ?_; rintro e w' ⟨rfl, rfl⟩)
  go_ret
  exact ⟨rfl, rfl⟩
theorem pow2_any (w : World) : Calls Tryz.prog 169 #[.int .i64 16] w fun e w' => e = .returned (.bool true) ∧ w' = w := by
  go_enter Tryz.func169, Tryz.ntmps169
  go_wp2
  go_ret
  exact ⟨rfl, rfl⟩
theorem and15 (v : Nat) (h : v < 18446744073709551616) : bits BinOp.and IntKind.u64 (v : Int) 15 = ((v % 16 : Nat) : Int) := by
  have := bits_mask .u64 64 (by decide) (fun n h0 h1 => by rw [IntKind.wrap_u64]; omega) 4 (by decide) (v : Int) (by omega) (by omega)
  have e : (2 : Int) ^ 4 - 1 = 15 := by decide
  rw [e] at this
  rw [this]; omega
theorem digit_at : ∀ d : Fin 16, ((ByteArray.mk #[48, 49, 50, 51, 52, 53, 54, 55, 56, 57, 97, 98, 99, 100, 101, 102, 103, 104, 105, 106, 107, 108, 109, 110, 111, 112, 113, 114, 115, 116, 117, 118, 119, 120, 121, 122])[d.val]'(by have := d.isLt; show _ < 36; omega)).toNat = (hexDl d).toNat := by decide +kernel
theorem digit_run (d : Nat) (hd : d < 16) (W : World) : (Instr.index 9 (.string ⟨#[48, 49, 50, 51, 52, 53, 54, 55, 56, 57, 97, 98, 99, 100, 101, 102, 103, 104, 105, 106, 107, 108, 109, 110, 111, 112, 113, 114, 115, 116, 117, 118, 119, 120, 121, 122]⟩) (.int .u64 (d : Int))).run Tryz.prog W = .ok (.int .u8 ((hexDl d).toNat : Int)) W := by
  rw [run_index_string (h := Tryz.underlying9)]
  have hs : 0 ≤ (d : Int) ∧ (d : Int) < ((ByteArray.mk #[48, 49, 50, 51, 52, 53, 54, 55, 56, 57, 97, 98, 99, 100, 101, 102, 103, 104, 105, 106, 107, 108, 109, 110, 111, 112, 113, 114, 115, 116, 117, 118, 119, 120, 121, 122]).size : Int) := by
    show 0 ≤ (d : Int) ∧ (d : Int) < 36
    omega
  rw [dif_pos hs]
  have := digit_at ⟨d, hd⟩
  simp only at this
  rw [← this]
  rfl
theorem hexFl_small {g v : Nat} (h : v < 16) : hexFl (g + 1) v = [hexDl v] := by rw [hexFl, if_pos h]
theorem hexFl_step {g v : Nat} (h : ¬ v < 16) : hexFl (g + 1) v = hexFl g (v / 16) ++ [hexDl (v % 16)] := by rw [hexFl, if_neg h]
/-- The digits so far, at a block's end. -/
structure DigAt (w : World) (b n : Nat) (l : List UInt8) : Prop where
  len : n + l.length = 65
  all : ∀ j, j < 65 → (∃ v, w.cell? ⟨b, j, none⟩ = some v) ∧ w.frozen? ⟨b, j, none⟩ = false
  at_ : ∀ j (hj : j < l.length), w.cell? ⟨b, n + j, none⟩ = some (.int .u8 (l[j].toNat : Int))
theorem DigAt.put {w : World} {b n : Nat} {l : List UInt8} (h : DigAt w b (n + 1) l) (c : UInt8) : DigAt (w.setCell ⟨b, n, none⟩ (.int .u8 (c.toNat : Int))) b n (c :: l) := by
  have hl := h.len
  obtain ⟨⟨v, hv⟩, hf⟩ := h.all n (by omega)
  refine ⟨by simp; omega, fun j hj => ?_, fun j hj => ?_⟩
  · obtain ⟨⟨x, hx⟩, hfx⟩ := h.all j hj
    refine ⟨?_, by rw [World.frozen?_setCell]; exact hfx⟩
    by_cases e : j = n
    · subst e; exact ⟨_, World.cell?_setCell_same _ _ _ hv⟩
    · exact ⟨x, (World.cell?_setCell_other _ _ _ _ (by intro h; cases h; exact e rfl)).trans hx⟩
  · cases j with
    | zero => exact World.cell?_setCell_same _ _ _ hv
    | succ j =>
      have := h.at_ j (by simpa using hj)
      rw [World.cell?_setCell_other _ _ _ _ (by intro h; injection h with _ h; omega)]
      rw [show n + (j + 1) = n + 1 + j by omega]
      simpa using this
def z65 : Array Value := Array.replicate 65 (.int .u8 0)
theorem zero65 (w : World) : (zeroValue 179).run Tryz.prog w = .ok (.agg z65) w := by kernel_rfl
theorem z65_at (j : Nat) (h : j < 65) : z65[j]? = some (.int .u8 0) := by unfold z65; rw [Array.getElem?_replicate, if_pos h]
theorem dig_start (w : World) (t : TypeId) : DigAt (w.alloc (.cells z65 t)) w.heap.size 65 [] :=
  ⟨rfl, fun j hj => ⟨⟨_, (World.cell?_alloc_new _ _ _ _).trans (z65_at j hj)⟩, World.frozen?_alloc_new _ _ _ _⟩, fun j hj => by simp at hj⟩
def BitsPost (u : Nat) (w : World) (e : Ending) (w' : World) : Prop := e = .returned (.tuple #[.slice none 0 0, .string ⟨(hexFl 16 u).toArray⟩]) ∧ Below w.heap.size w w'
set_option maxHeartbeats 1000000 in
set_option maxRecDepth 100000 in
theorem bits_any (u : Nat) (hu : u < 9223372036854775808) (w : World) (hV : Vars w) : Calls Tryz.prog 144 #[.slice none 0 0, .int .u64 u, .int .i64 16, .bool false, .bool false] w (BitsPost u w) := by
  have HV := Lib.hid hV; clear hV
  have HU := Lib.hid hu; clear hu
  go_enter Tryz.func144, Tryz.ntmps144
  have hz := zero65
  go_wp2_with (first | (go_at_call 169; refine (pow2_any _).mono ?_; rintro e w' ⟨rfl, rfl⟩) | (go_at_call 170; refine (tz_any _ (HV.out.below ((Below.refl _ _).alloc (Nat.le_refl _) _))).mono ?_; rintro e w' ⟨rfl, rfl⟩))
  clear hz
  have HD0 : Hid (DigAt (w.alloc (.cells z65 179)) w.heap.size 65 []) := dig_start w _
  have HB0 : Hid (Below w.heap.size w (w.alloc (.cells z65 179))) := (Below.refl _ _).alloc (Nat.le_refl _) _
  generalize w.alloc (.cells z65 179) = w1 at HD0 HB0 ⊢
  go_loopw [1, 13] (fun x i wr => ∃ (v n f : Nat) (l : List UInt8), x = .int .u64 v ∧ i = .int .i64 n ∧ n = 49 + f ∧ 1 ≤ f ∧ f ≤ 16 ∧ v < 16 ^ f ∧ Hid (hexFl f v ++ l = hexFl 16 u) ∧ Hid (DigAt wr w.heap.size n l) ∧ Hid (Below w.heap.size w wr)) (fun _ i _ => (intOf i).toNat)
  case atStart => exact ⟨u, 65, 16, [], rfl, rfl, rfl, by decide, Nat.le_refl _, by have := HU.out; omega, by show _ = _; simp, HD0.out, HB0.out⟩
  case round =>
    clear HD0 HB0
    obtain ⟨v, n, f, l, rfl, rfl, hn, hf1, hf, hv, HE, HD, HB⟩ := hrel
    obtain ⟨m, rfl⟩ : ∃ m, n = m + 1 := ⟨n - 1, by omega⟩
    obtain ⟨g, rfl⟩ : ∃ g, f = g + 1 := ⟨f - 1, by omega⟩
    have hv64 : v < 16 ^ 16 := Nat.lt_of_lt_of_le hv (Nat.pow_le_pow_right (by decide) hf)
    have hm : m < 65 := by omega
    obtain ⟨⟨c, hc⟩, hfz⟩ := HD.out.all m hm
    have hmz : (m : Int) < 65 := by omega
    have hm1 : ((m + 1 : Nat) : Int) - 1 = (m : Int) := by omega
    have hblk : w.heap.size < wr.heap.size := World.block_lt_of_cell? _ _ hc
    by_cases hlt : v < 16
    · have hE : hexDl v :: l = hexFl 16 u := by have := HE.out; rw [hexFl_small hlt] at this; exact this
      have HE2 := Lib.hid hE; clear hE HE
      have HD2 : Hid (DigAt (wr.setCell ⟨w.heap.size, m, none⟩ (.int .u8 ((hexDl v).toNat : Int))) w.heap.size m (hexDl v :: l)) := HD.out.put _
      have hd := digit_run v hlt
      have hlz : (v : Int) < 16 := by omega
      have hal : Tryz.prog.arrayLen 179 = 65 := by kernel_rfl
      have hel : Tryz.prog.elem 179 = 5 := by kernel_rfl
      have hsl : ∀ W, (Instr.sliceAt 179 (.pointer (some ⟨w.heap.size, 0, none⟩)) (some (.int .i64 (m : Int))) none none).run Tryz.prog W = .ok (.slice (some ⟨w.heap.size, m, none⟩) (l.length + 1) (65 - m)) W := fun W => by
        rw [run_sliceAt_array_l W 179 ⟨w.heap.size, 0, none⟩ (by rw [hal, hel]; exact Tryz.underlying179) .i64 (m : Int) (by omega) (by rw [hal]; omega)]
        have := HD2.out.len
        rw [hal, hel]
        go_simp
        simp at this
        omega
      have hcv : (convert 118 9 (.slice (some ⟨w.heap.size, m, none⟩) (l.length + 1) (65 - m))).run Tryz.prog (wr.setCell ⟨w.heap.size, m, none⟩ (.int .u8 ((hexDl v).toNat : Int))) = .ok (.string ⟨(hexFl 16 u).toArray⟩) (wr.setCell ⟨w.heap.size, m, none⟩ (.int .u8 ((hexDl v).toNat : Int))) := by
        rw [← HE2.out]
        exact run_convert_bytes_back (P := Tryz.prog) _ 118 9 5 ⟨w.heap.size, m, none⟩ (65 - m) (hexDl v :: l) Tryz.underlying118 Tryz.underlying5 Tryz.underlying9 (fun j hj => by rw [Lib.add_plain]; exact HD2.out.at_ j hj)
      clear hn hf1 hf hv hv64 hlt hal hel
      go_wp2
      go_ret2
      exact ⟨rfl, HB.out.setCell (Nat.le_refl _) _⟩
    · have hE : hexFl g (v / 16) ++ (hexDl (v % 16) :: l) = hexFl 16 u := by have := HE.out; rw [hexFl_step hlt] at this; simpa using this
      have HE2 := Lib.hid hE; clear hE HE
      have HD2 : Hid (DigAt (wr.setCell ⟨w.heap.size, m, none⟩ (.int .u8 ((hexDl (v % 16)).toNat : Int))) w.heap.size m (hexDl (v % 16) :: l)) := HD.out.put _
      have hd := digit_run (v % 16) (Nat.mod_lt _ (by decide))
      have ha := and15 v (by omega)
      rw [show ((v % 16 : Nat) : Int) = (v : Int) % 16 by omega] at hd ha
      have hlz : 16 ≤ (v : Int) := by omega
      have hg : 1 ≤ g := by
        by_cases h0 : g = 0
        · subst h0; omega
        · omega
      have hv2 : v / 16 < 16 ^ g := by rw [Nat.pow_succ] at hv; exact Nat.div_lt_of_lt_mul (by omega)
      have HV2 := Lib.hid hv2; clear hv2
      have HN := Lib.hid hn; clear hn
      clear hv hv64 hlt
      go_wp2
      go_roundw
      case measure => simp [intOf]
      case rel => exact ⟨v / 16, m, g, hexDl (v % 16) :: l, by go_num, rfl, by have := HN.out; omega, hg, by omega, HV2.out, HE2, HD2, HB.out.setCell (Nat.le_refl _) _⟩
end Go.Proofs.Pt
end

/- ==== the text CW ==== -/
section
/- What the rows of this seat lean on: the listed variables, a world that bears them, what the walks ask of them, and the wrap with the world's shape kept. -/
namespace Go.Proofs.YtjgdnhmbfeekoaaGreatDoor
open Go.ChangeShapes Go.WideShapes Go.ChangeAt Go.RowKit

def laidL : List (String × DataW Unit) := [("math/bits.deBruijn32tab", Rows.laid_math_bits_deBruijn32tab), ("math/bits.deBruijn64tab", Rows.laid_math_bits_deBruijn64tab), ("internal/strconv.uint64pow10", Rows.laid_internal_strconv_uint64pow10), ("unicode/utf8.acceptRanges", Rows.laid_unicode_utf8_acceptRanges), ("strconv.ErrRange", Rows.laid_strconv_ErrRange), ("strconv.ErrSyntax", Rows.laid_strconv_ErrSyntax), ("unicode.CaseRanges", Rows.laid_unicode_CaseRanges), ("unicode/utf8.first", Rows.laid_unicode_utf8_first)]
theorem wit_shaped (os : Os) (args : Array Value) : ((World.laidAll Tryz.prog os laidL).forCall (fun _ _ => 0) ⟨#[], args, []⟩).Shaped Tryz.prog := World.shaped_of_ZipB (by kernel_rfl) (by kernel_rfl)
theorem laid_plain (W : World) : laidMetH Tryz.prog laidL W = laidMet Tryz.prog laidL W := MakeChecks.laidMetH_plain _ _ _ (by kernel_rfl)
theorem wit_met (os : Os) (args : Array Value) : laidMetH Tryz.prog laidL ((World.laidAll Tryz.prog os laidL).forCall (fun _ _ => 0) ⟨#[], args, []⟩).memory := by
  rw [laid_plain]; exact laidMet_laidAll _ (by kernel_rfl) (by kernel_rfl)
theorem tz_any {W : World} (h : laidMetH Tryz.prog laidL W) (r : Nat) (hr : r < 64) : ∃ z, (match (Rows.laid_math_bits_deBruijn64tab : DataW Unit) with | .agg l => l[r]? | _ => none) = some (.lit (.int .u8 z)) ∧ W.cell? ⟨8, r, none⟩ = some (.int .u8 z) := by
  rw [laid_plain] at h
  obtain ⟨g, t, cs, fuel, p, hg, ht, hv, hd⟩ := Lib.laidMet.reads h (n := "math/bits.deBruijn64tab") (d := Rows.laid_math_bits_deBruijn64tab) (.tail _ (.head _))
  obtain rfl := Option.some.inj ((show Tryz.prog.globalNamed "math/bits.deBruijn64tab" = some 8 by kernel_rfl).symm.trans hg)
  obtain rfl := Option.some.inj ((show (Tryz.prog.globals[8]?).map (·.type) = some 204 by kernel_rfl).symm.trans ht)
  obtain ⟨xs, m, _, ex, _, hl, hel⟩ := DataW.trod_array Tryz.underlying204 hd
  have c5 : Tryz.prog.cellsOf 5 = 1 := by kernel_rfl
  have hE := hel r hr
  rw [c5, Nat.mul_one, List.getElem?_eq_getElem (by omega)] at hE
  obtain ⟨z, e1, e2, _⟩ := DataW.trod_int Tryz.underlying5 hE
  have e3 : (Rows.laid_math_bits_deBruijn64tab : DataW Unit) = .agg (xs.map (·.1)) := (Prod.mk.inj ex).1
  refine ⟨z, ?_, ?_⟩
  · rw [e3]
    show (xs.map (·.1))[r]? = _
    rw [List.getElem?_map, List.getElem?_eq_getElem (by omega : r < xs.length), Option.map_some, e2]
  · rw [World.var?_cell hg hv r]
    have : cs.toList[r]? = some (.int .u8 z) := by
      have h0 : ((cs.toList.drop r).take 1)[0]? = some (.int .u8 z) := by rw [e1]; rfl
      simpa using h0
    simpa using this
theorem var_tz {W : World} (h : laidMetH Tryz.prog laidL W) : W.cell? ⟨8, 15, none⟩ = some (.int .u8 4) := by
  obtain ⟨z, e1, e2⟩ := tz_any h 15 (by decide)
  have e3 : (match (Rows.laid_math_bits_deBruijn64tab : DataW Unit) with | .agg l => l[15]? | _ => none) = some (.lit (.int .u8 4)) := by rfl
  rw [e3] at e1
  simp only [Option.some.injEq, DataW.lit.injEq, Lit.int.injEq, true_and] at e1
  rw [e1]; exact e2
theorem var_max {W : World} (h : W.ShapedOpen Tryz.prog) : ∃ m, W.cell? ⟨0, 0, none⟩ = some (.int .i64 m) :=
  cell_of_shapedOpen_int (t := 3) (zero := #[.int .i64 0]) h (of_decide_eq_true (by kernel_rfl)) (by kernel_rfl) rfl (by kernel_rfl) (by kernel_rfl) Tryz.underlying3
theorem vars_of {W : World} (h : laidMetH Tryz.prog laidL W) (hs : W.ShapedOpen Tryz.prog) : Go.Proofs.Pt.Vars W := ⟨var_max hs, var_tz h⟩

/-- The wrap with a condition on the world, the world's shape kept. -/
theorem handed_and {H : Type} {enc : TypeId × Value → H} {a : Assume} {C : Checked} {os : Os} {f : FuncId} {fn : Func} {s : ChangeSpec} {conds : List PathCond} {apart fresh handsOn again : Bool} {X : World → Array Value → Prop}
    (hX : ∀ (w w' : World) (args : Array Value), w.heap = w'.heap → X w args → X w' args)
    (own : ownKnob C.prog.godebug = none) (started : os.Started) (noInit : C.prog.inits.idxOf? f = none) (hfn : C.prog.funcs[f]? = some fn)
    (witness : ∃ (w : World) (tape : Tape) (i : Input), w.os = os ∧ (w.forCall tape i).Shaped C.prog ∧ i.vars = [] ∧ Input.okWide C.prog (w.forCall tape i) .any w.heap.size f i ∧
      ((s.pre enc C.prog fn conds apart (w.forCall tape i).memory i.args ∧ X (w.forCall tape i).memory i.args) ∧ sizedMet enc C.prog fn (OpenSpec.ofChange s) apart (w.forCall tape i).memory i.args) ∧ a.holds C.prog (lone (Frame.enter C.prog f i.args .normal) [] (w.forCall tape i)))
    (contract : ∀ (W : World) (base : Nat) (args : Array Value) (ds gs : List (DataW H)) (before : List MemPlace),
      (∀ (j : Nat) t v, fn.params[j]? = some t → args[j]? = some v → Value.okWide C.prog W .any base t v) →
      DataW.Whole enc C.prog fn.params.toList s.vars apart W args.toList ds gs before →
      conds.all (PathCond.test C.prog ⟨fn.params.toList, ds, s.plain.varTypes C.prog, gs⟩) = true →
      (DataW.weightsEach C.prog (fn.params.toList ++ s.plain.varTypes C.prog) (ds ++ gs)).all (· ≤ reachBytes) = true → X W args → W.ShapedOpen C.prog →
      Calls C.prog f args W fun e W' => ∃ v, e = .returned v ∧ s.post enc C.prog fn apart fresh handsOn again W args v W') :
    ReturnsInHanded a C os f .any (fun w args => (s.pre enc C.prog fn conds apart w args ∧ X w args) ∧ sizedMet enc C.prog fn (OpenSpec.ofChange s) apart w args) (s.post enc C.prog fn apart fresh handsOn again) := by
  refine returnsInHanded_of_calls own started noInit witness ?_
  intro w tape i _ hsh _ hok hpre hholds
  obtain ⟨_, _, _, fn', hfn', _, _, _, _, hval⟩ := hok
  have e : fn' = fn := Option.some.inj (hfn'.symm.trans hfn)
  subst e
  obtain ⟨⟨⟨ds, gs, before, hw, hc⟩, hx⟩, hz⟩ := hpre
  have hw' := DataW.Whole.of_heap (w' := w.forCall tape i) (by rfl) hw
  refine (contract (w.forCall tape i) w.heap.size i.args ds gs before hval hw' hc (hz.weights hw) (hX _ _ _ (by rfl) hx) hsh).mono fun e W' ⟨v, he, hp⟩ => ?_
  subst he
  exact ChangeSpec.post_blind hp
theorem own : ownKnob Tryz.prog.godebug = none := by kernel_rfl
end Go.Proofs.YtjgdnhmbfeekoaaGreatDoor
end

/- ==== the text Sh ==== -/
section
/-
  DERIVED: THE SHELF's CONTRACTS AT THIS DUMP, IN PLAIN WORDS (tools/lay-plain.mjs out of 'YtjgdnhmbfeekoaaGreatDoorSht.lean', which tools/lay-shelf.mjs wrote): THE SAME DECLARATIONS UNDER THE SAME NAMES: 'import', 'namespace', 'open', 'def', 'theorem' AND NOTHING ELSE: no command of the shelf's: FOR A HAND-IN. Each laying: the table of numbers ('.._ren') and one theorem, a field a fact of the dump's own or the kernel's comparison; each contract: ONE APPLICATION.
-/
namespace Go.Proofs
open Go.Shelf
def Tryz.lays158_ren : Go.Shelf.Ren := ⟨fun | 158 => 83 | 165 => 107 | 166 => 108 | 167 => 109 | 169 => 110 | 230 => 111 | 203 => 112 | 240 => 134 | 241 => 135 | 197 => 136 | 118 => 137 | 168 => 138 | 270 => 139 | 262 => 140 | 276 => 161 | 277 => 162 | 260 => 163 | 242 => 164 | 313 => 165 | 278 => 181 | 274 => 182 | 275 => 183 | n => n, fun | 9 => 9 | 4 => 4 | 3 => 3 | 5 => 5 | 72 => 120 | 0 => 0 | 76 => 121 | 75 => 97 | 107 => 125 | 70 => 117 | 20 => 20 | 37 => 118 | 127 => 141 | 21 => 21 | 105 => 142 | 164 => 170 | 162 => 176 | 203 => 174 | 119 => 188 | 46 => 126 | 139 => 191 | 138 => 190 | 51 => 153 | 160 => 192 | 208 => 202 | 206 => 200 | 80 => 62 | n => n, fun | 13 => 1 | 3 => 5 | 4 => 6 | n => n⟩
theorem Tryz.lays158 : Go.Proofs.Lays.n158 Tryz.prog Tryz.lays158_ren := {
  mixed := by kernel_rfl
  f118 := Tryz.func137.trans (congrArg some (by kernel_rfl))
  f158 := Tryz.func83.trans (congrArg some (by kernel_rfl))
  f165 := Tryz.func107.trans (congrArg some (by kernel_rfl))
  f166 := Tryz.func108.trans (congrArg some (by kernel_rfl))
  f167 := Tryz.func109.trans (congrArg some (by kernel_rfl))
  f168 := Tryz.func138.trans (congrArg some (by kernel_rfl))
  f169 := Tryz.func110.trans (congrArg some (by kernel_rfl))
  f197 := Tryz.func136.trans (congrArg some (by kernel_rfl))
  f203 := Tryz.func112.trans (congrArg some (by kernel_rfl))
  f230 := Tryz.func111.trans (congrArg some (by kernel_rfl))
  f240 := Tryz.func134.trans (congrArg some (by kernel_rfl))
  f241 := Tryz.func135.trans (congrArg some (by kernel_rfl))
  f242 := Tryz.func164.trans (congrArg some (by kernel_rfl))
  f260 := Tryz.func163.trans (congrArg some (by kernel_rfl))
  f262 := Tryz.func140.trans (congrArg some (by kernel_rfl))
  f270 := Tryz.func139.trans (congrArg some (by kernel_rfl))
  f274 := Tryz.func182.trans (congrArg some (by kernel_rfl))
  f275 := Tryz.func183.trans (congrArg some (by kernel_rfl))
  f276 := Tryz.func161.trans (congrArg some (by kernel_rfl))
  f277 := Tryz.func162.trans (congrArg some (by kernel_rfl))
  f278 := Tryz.func181.trans (congrArg some (by kernel_rfl))
  f313 := Tryz.func165.trans (congrArg some (by kernel_rfl))
  t0 := Tryz.underlying0
  a0 := Tryz.isAgg0
  z0 := Tryz.sizeOf0
  v0 := Tryz.zeroValue0
  t3 := Tryz.underlying3
  a3 := Tryz.isAgg3
  z3 := Tryz.sizeOf3
  v3 := Tryz.zeroValue3
  t4 := Tryz.underlying4
  a4 := Tryz.isAgg4
  z4 := Tryz.sizeOf4
  v4 := Tryz.zeroValue4
  t5 := Tryz.underlying5
  a5 := Tryz.isAgg5
  z5 := Tryz.sizeOf5
  v5 := Tryz.zeroValue5
  t9 := Tryz.underlying9
  a9 := Tryz.isAgg9
  z9 := Tryz.sizeOf9
  v9 := Tryz.zeroValue9
  t20 := Tryz.underlying20
  a20 := Tryz.isAgg20
  z20 := Tryz.sizeOf20
  v20 := Tryz.zeroValue20
  t21 := Tryz.underlying21
  a21 := Tryz.isAgg21
  z21 := Tryz.sizeOf21
  v21 := Tryz.zeroValue21
  t37 := Tryz.underlying118
  a37 := Tryz.isAgg118
  z37 := Tryz.sizeOf118
  v37 := Tryz.zeroValue118
  t46 := Tryz.underlying126
  a46 := Tryz.isAgg126
  z46 := Tryz.sizeOf126
  v46 := Tryz.zeroValue126
  t51 := Tryz.underlying153
  a51 := Tryz.isAgg153
  z51 := Tryz.sizeOf153
  v51 := Tryz.zeroValue153
  t70 := Tryz.underlying117
  a70 := Tryz.isAgg117
  z70 := Tryz.sizeOf117
  v70 := Tryz.zeroValue117
  t72 := Tryz.underlying120
  a72 := Tryz.isAgg120
  z72 := Tryz.sizeOf120
  v72 := Tryz.zeroValue120
  t75 := Tryz.underlying97
  a75 := Tryz.isAgg97
  z75 := Tryz.sizeOf97
  v75 := Tryz.zeroValue97
  t76 := Tryz.underlying121
  a76 := Tryz.isAgg121
  z76 := Tryz.sizeOf121
  v76 := Tryz.zeroValue121
  t105 := Tryz.underlying142
  a105 := Tryz.isAgg142
  z105 := Tryz.sizeOf142
  v105 := Tryz.zeroValue142
  t107 := Tryz.underlying125
  a107 := Tryz.isAgg125
  z107 := Tryz.sizeOf125
  v107 := Tryz.zeroValue125
  t119 := Tryz.underlying188
  a119 := Tryz.isAgg188
  z119 := Tryz.sizeOf188
  t127 := Tryz.underlying141
  a127 := Tryz.isAgg141
  z127 := Tryz.sizeOf141
  v127 := Tryz.zeroValue141
  t138 := Tryz.underlying190
  a138 := Tryz.isAgg190
  z138 := Tryz.sizeOf190
  v138 := Tryz.zeroValue190
  t139 := Tryz.underlying191
  a139 := Tryz.isAgg191
  z139 := Tryz.sizeOf191
  v139 := Tryz.zeroValue191
  t160 := Tryz.underlying192
  a160 := Tryz.isAgg192
  z160 := Tryz.sizeOf192
  v160 := Tryz.zeroValue192
  t162 := Tryz.underlying176
  a162 := Tryz.isAgg176
  z162 := Tryz.sizeOf176
  v162 := Tryz.zeroValue176
  t164 := Tryz.underlying170
  a164 := Tryz.isAgg170
  z164 := Tryz.sizeOf170
  v164 := Tryz.zeroValue170
  t203 := Tryz.underlying174
  a203 := Tryz.isAgg174
  z203 := Tryz.sizeOf174
  v203 := Tryz.zeroValue174
  t206 := Tryz.underlying200
  a206 := Tryz.isAgg200
  z206 := Tryz.sizeOf200
  v206 := Tryz.zeroValue200
  t208 := Tryz.underlying202
  a208 := Tryz.isAgg202
  z208 := Tryz.sizeOf202
  v208 := Tryz.zeroValue202
  g3 := by kernel_rfl
  g4 := by kernel_rfl
  g13 := by kernel_rfl }
theorem Tryz.Builder_Extra_158 : Builder.Extra Tryz.prog Tryz.lays158_ren := {
  sizeBuilder := by kernel_rfl
  liesBuilder := by kernel_rfl
  t5 := Tryz.underlying5
  a5 := Tryz.isAgg5
  z5 := Tryz.sizeOf5
  v5 := Tryz.zeroValue5
  infoByte := by kernel_rfl
  cellsByte := by kernel_rfl
  sizeByte := by kernel_rfl
  neB5 := by decide }
open Go.RowKit in
/-- strings.ToUpper: "ToUpper returns s with all Unicode letters mapped to their upper case.": ON ASCII TEXT OF AT MOST 2^47 BYTES. Below the heap's end the world is as it was: where a letter turns, the call makes a builder and its buffer. (LAID: no walk: one application.) -/
theorem Tryz.strings_ToUpper_ascii (s : ByteArray) (w : World) (hs : s.size ≤ 140737488355328) (hascii : ∀ (j : Nat) (b : UInt8), s.data.toList[j]? = some b → b.toNat < 128) :
    Calls Tryz.prog 83 #[.string s] w fun e w' => e = .returned (.string ⟨(Lib.toUpperA s.data.toList).toArray⟩) ∧ Below w.heap.size w w' := Any.strings_ToUpper_ascii Tryz.lays158 Tryz.Builder_Extra_158 s w hs hascii
def Tryz.lays145_ren : Go.Shelf.Ren := ⟨fun | 145 => 55 | 220 => 82 | 219 => 106 | 217 => 130 | 225 => 131 | 224 => 132 | 267 => 133 | 266 => 159 | 314 => 160 | n => n, fun | 9 => 9 | 4 => 4 | 59 => 60 | 3 => 3 | 5 => 5 | 46 => 126 | 146 => 154 | 51 => 153 | n => n, fun | 1 => 0 | n => n⟩
theorem Tryz.lays145 : Go.Proofs.Lays.n145 Tryz.prog Tryz.lays145_ren := {
  mixed := by kernel_rfl
  f145 := Tryz.func55.trans (congrArg some (by kernel_rfl))
  f217 := Tryz.func130.trans (congrArg some (by kernel_rfl))
  f219 := Tryz.func106.trans (congrArg some (by kernel_rfl))
  f220 := Tryz.func82.trans (congrArg some (by kernel_rfl))
  f224 := Tryz.func132.trans (congrArg some (by kernel_rfl))
  f225 := Tryz.func131.trans (congrArg some (by kernel_rfl))
  f266 := Tryz.func159.trans (congrArg some (by kernel_rfl))
  f267 := Tryz.func133.trans (congrArg some (by kernel_rfl))
  f314 := Tryz.func160.trans (congrArg some (by kernel_rfl))
  t3 := Tryz.underlying3
  a3 := Tryz.isAgg3
  z3 := Tryz.sizeOf3
  v3 := Tryz.zeroValue3
  t4 := Tryz.underlying4
  a4 := Tryz.isAgg4
  z4 := Tryz.sizeOf4
  v4 := Tryz.zeroValue4
  t5 := Tryz.underlying5
  a5 := Tryz.isAgg5
  z5 := Tryz.sizeOf5
  v5 := Tryz.zeroValue5
  t9 := Tryz.underlying9
  a9 := Tryz.isAgg9
  z9 := Tryz.sizeOf9
  v9 := Tryz.zeroValue9
  t46 := Tryz.underlying126
  a46 := Tryz.isAgg126
  z46 := Tryz.sizeOf126
  v46 := Tryz.zeroValue126
  t51 := Tryz.underlying153
  a51 := Tryz.isAgg153
  z51 := Tryz.sizeOf153
  v51 := Tryz.zeroValue153
  t59 := Tryz.underlying60
  a59 := Tryz.isAgg60
  z59 := Tryz.sizeOf60
  v59 := Tryz.zeroValue60
  t146 := Tryz.underlying154
  a146 := Tryz.isAgg154
  z146 := Tryz.sizeOf154
  v146 := Tryz.zeroValue154
  g1 := by kernel_rfl }
open Go.RowKit Go.Lib in
/-- strings.Cut: "Cut slices s around the first instance of sep, returning the text before and after sep. The found result reports whether sep appears in s. If sep does not appear in s, cut returns s, "", false.": IT RETURNS 'Lib.cut s sep'; the world is as it was but for the count of draws. (LAID: no walk: one application.) -/
theorem Tryz.strings_Cut (s sep : ByteArray) (m : Int) (w : World) (hs : s.size < 4294967281) (hm : w.cell? ⟨0, 0, none⟩ = some (.int .i64 m)) :
    Calls Tryz.prog 55 #[.string s, .string sep] w fun e w' => e = .returned (.tuple #[.string ⟨(Lib.cut s.data.toList sep.data.toList).1.toArray⟩, .string ⟨(Lib.cut s.data.toList sep.data.toList).2.1.toArray⟩, .bool (Lib.cut s.data.toList sep.data.toList).2.2]) ∧ ∃ n, w' = w.drewN n := Any.strings_Cut Tryz.lays145 s sep m w hs hm
def Tryz.lays146_ren : Go.Shelf.Ren := ⟨fun | 146 => 86 | 221 => 117 | 268 => 148 | 138 => 149 | 143 => 150 | 195 => 171 | 197 => 136 | 218 => 172 | 219 => 106 | 260 => 163 | 217 => 130 | 225 => 131 | 224 => 132 | 267 => 133 | 266 => 159 | 314 => 160 | n => n, fun | 9 => 9 | 31 => 94 | 3 => 3 | 4 => 4 | 0 => 0 | 105 => 142 | 21 => 21 | 5 => 5 | 46 => 126 | 119 => 188 | 139 => 191 | 138 => 190 | 146 => 154 | 51 => 153 | n => n, fun | 1 => 0 | 3 => 5 | 4 => 6 | n => n⟩
theorem Tryz.lays146 : Go.Proofs.Lays.n146 Tryz.prog Tryz.lays146_ren := {
  mixed := by kernel_rfl
  f138 := Tryz.func149.trans (congrArg some (by kernel_rfl))
  f143 := Tryz.func150.trans (congrArg some (by kernel_rfl))
  f146 := Tryz.func86.trans (congrArg some (by kernel_rfl))
  f195 := Tryz.func171.trans (congrArg some (by kernel_rfl))
  f197 := Tryz.func136.trans (congrArg some (by kernel_rfl))
  f217 := Tryz.func130.trans (congrArg some (by kernel_rfl))
  f218 := Tryz.func172.trans (congrArg some (by kernel_rfl))
  f219 := Tryz.func106.trans (congrArg some (by kernel_rfl))
  f221 := Tryz.func117.trans (congrArg some (by kernel_rfl))
  f224 := Tryz.func132.trans (congrArg some (by kernel_rfl))
  f225 := Tryz.func131.trans (congrArg some (by kernel_rfl))
  f260 := Tryz.func163.trans (congrArg some (by kernel_rfl))
  f266 := Tryz.func159.trans (congrArg some (by kernel_rfl))
  f267 := Tryz.func133.trans (congrArg some (by kernel_rfl))
  f268 := Tryz.func148.trans (congrArg some (by kernel_rfl))
  f314 := Tryz.func160.trans (congrArg some (by kernel_rfl))
  t0 := Tryz.underlying0
  a0 := Tryz.isAgg0
  z0 := Tryz.sizeOf0
  v0 := Tryz.zeroValue0
  t3 := Tryz.underlying3
  a3 := Tryz.isAgg3
  z3 := Tryz.sizeOf3
  v3 := Tryz.zeroValue3
  t4 := Tryz.underlying4
  a4 := Tryz.isAgg4
  z4 := Tryz.sizeOf4
  v4 := Tryz.zeroValue4
  t5 := Tryz.underlying5
  a5 := Tryz.isAgg5
  z5 := Tryz.sizeOf5
  v5 := Tryz.zeroValue5
  t9 := Tryz.underlying9
  a9 := Tryz.isAgg9
  z9 := Tryz.sizeOf9
  v9 := Tryz.zeroValue9
  t21 := Tryz.underlying21
  a21 := Tryz.isAgg21
  z21 := Tryz.sizeOf21
  v21 := Tryz.zeroValue21
  t31 := Tryz.underlying94
  a31 := Tryz.isAgg94
  z31 := Tryz.sizeOf94
  v31 := Tryz.zeroValue94
  t46 := Tryz.underlying126
  a46 := Tryz.isAgg126
  z46 := Tryz.sizeOf126
  v46 := Tryz.zeroValue126
  t51 := Tryz.underlying153
  a51 := Tryz.isAgg153
  z51 := Tryz.sizeOf153
  v51 := Tryz.zeroValue153
  t105 := Tryz.underlying142
  a105 := Tryz.isAgg142
  z105 := Tryz.sizeOf142
  v105 := Tryz.zeroValue142
  t119 := Tryz.underlying188
  a119 := Tryz.isAgg188
  z119 := Tryz.sizeOf188
  t138 := Tryz.underlying190
  a138 := Tryz.isAgg190
  z138 := Tryz.sizeOf190
  v138 := Tryz.zeroValue190
  t139 := Tryz.underlying191
  a139 := Tryz.isAgg191
  z139 := Tryz.sizeOf191
  v139 := Tryz.zeroValue191
  t146 := Tryz.underlying154
  a146 := Tryz.isAgg154
  z146 := Tryz.sizeOf154
  v146 := Tryz.zeroValue154
  g1 := by kernel_rfl
  g3 := by kernel_rfl
  g4 := by kernel_rfl }
open Go.RowKit Go.Lib in
/-- strings.Split. (LAID: no walk: one application.) -/
theorem Tryz.strings_Split (s sep : ByteArray) (m : Int) (w : World) (hs : s.size < 4294967281) (hm : w.cell? ⟨0, 0, none⟩ = some (.int .i64 m)) (h1 : 1 ≤ sep.size) :
    Calls Tryz.prog 86 #[.string s, .string sep] w fun e w' =>
      e = .returned (.slice (some ⟨w.heap.size, 0, none⟩) (Lib.countB s sep + 1) (Lib.countB s sep + 1)) ∧ w' = w.alloc (.cells ((Lib.splitB sep 0 (Lib.countB s sep) s).map Value.string).toArray 9) := Any.strings_Split Tryz.lays146 (by kernel_rfl) s sep m w hs hm h1
def Tryz.lays105_ren : Go.Shelf.Ren := ⟨fun | 105 => 85 | 212 => 114 | 99 => 115 | 165 => 107 | 166 => 108 | 170 => 116 | 169 => 110 | 263 => 145 | 264 => 146 | 206 => 147 | 240 => 134 | 241 => 135 | 276 => 161 | 277 => 162 | n => n, fun | 9 => 9 | 3 => 3 | 4 => 4 | 20 => 20 | 0 => 0 | 46 => 126 | 109 => 127 | 5 => 5 | 72 => 120 | 76 => 121 | 51 => 153 | 146 => 154 | 53 => 148 | 148 => 156 | 70 => 117 | 37 => 118 | 75 => 97 | 127 => 141 | 164 => 170 | 80 => 62 | n => n, fun | n => n⟩
theorem Tryz.lays105 : Go.Proofs.Lays.n105 Tryz.prog Tryz.lays105_ren := {
  mixed := by kernel_rfl
  f99 := Tryz.func115.trans (congrArg some (by kernel_rfl))
  f105 := Tryz.func85.trans (congrArg some (by kernel_rfl))
  f165 := Tryz.func107.trans (congrArg some (by kernel_rfl))
  f166 := Tryz.func108.trans (congrArg some (by kernel_rfl))
  f169 := Tryz.func110.trans (congrArg some (by kernel_rfl))
  f170 := Tryz.func116.trans (congrArg some (by kernel_rfl))
  f206 := Tryz.func147.trans (congrArg some (by kernel_rfl))
  f212 := Tryz.func114.trans (congrArg some (by kernel_rfl))
  f240 := Tryz.func134.trans (congrArg some (by kernel_rfl))
  f241 := Tryz.func135.trans (congrArg some (by kernel_rfl))
  f263 := Tryz.func145.trans (congrArg some (by kernel_rfl))
  f264 := Tryz.func146.trans (congrArg some (by kernel_rfl))
  f276 := Tryz.func161.trans (congrArg some (by kernel_rfl))
  f277 := Tryz.func162.trans (congrArg some (by kernel_rfl))
  t0 := Tryz.underlying0
  a0 := Tryz.isAgg0
  z0 := Tryz.sizeOf0
  v0 := Tryz.zeroValue0
  t3 := Tryz.underlying3
  a3 := Tryz.isAgg3
  z3 := Tryz.sizeOf3
  v3 := Tryz.zeroValue3
  t4 := Tryz.underlying4
  a4 := Tryz.isAgg4
  z4 := Tryz.sizeOf4
  v4 := Tryz.zeroValue4
  t5 := Tryz.underlying5
  a5 := Tryz.isAgg5
  z5 := Tryz.sizeOf5
  v5 := Tryz.zeroValue5
  t9 := Tryz.underlying9
  a9 := Tryz.isAgg9
  z9 := Tryz.sizeOf9
  v9 := Tryz.zeroValue9
  t20 := Tryz.underlying20
  a20 := Tryz.isAgg20
  z20 := Tryz.sizeOf20
  v20 := Tryz.zeroValue20
  t37 := Tryz.underlying118
  a37 := Tryz.isAgg118
  z37 := Tryz.sizeOf118
  v37 := Tryz.zeroValue118
  t46 := Tryz.underlying126
  a46 := Tryz.isAgg126
  z46 := Tryz.sizeOf126
  v46 := Tryz.zeroValue126
  t51 := Tryz.underlying153
  a51 := Tryz.isAgg153
  z51 := Tryz.sizeOf153
  v51 := Tryz.zeroValue153
  t53 := Tryz.underlying148
  a53 := Tryz.isAgg148
  z53 := Tryz.sizeOf148
  v53 := Tryz.zeroValue148
  t70 := Tryz.underlying117
  a70 := Tryz.isAgg117
  z70 := Tryz.sizeOf117
  v70 := Tryz.zeroValue117
  t72 := Tryz.underlying120
  a72 := Tryz.isAgg120
  z72 := Tryz.sizeOf120
  v72 := Tryz.zeroValue120
  t75 := Tryz.underlying97
  a75 := Tryz.isAgg97
  z75 := Tryz.sizeOf97
  v75 := Tryz.zeroValue97
  t76 := Tryz.underlying121
  a76 := Tryz.isAgg121
  z76 := Tryz.sizeOf121
  v76 := Tryz.zeroValue121
  t109 := Tryz.underlying127
  a109 := Tryz.isAgg127
  z109 := Tryz.sizeOf127
  v109 := Tryz.zeroValue127
  t127 := Tryz.underlying141
  a127 := Tryz.isAgg141
  z127 := Tryz.sizeOf141
  v127 := Tryz.zeroValue141
  t146 := Tryz.underlying154
  a146 := Tryz.isAgg154
  z146 := Tryz.sizeOf154
  v146 := Tryz.zeroValue154
  t148 := Tryz.underlying156
  a148 := Tryz.isAgg156
  z148 := Tryz.sizeOf156
  v148 := Tryz.zeroValue156
  t164 := Tryz.underlying170
  a164 := Tryz.isAgg170
  z164 := Tryz.sizeOf170
  v164 := Tryz.zeroValue170 }
theorem Tryz.Builder_Extra_105 : Builder.Extra Tryz.prog Tryz.lays105_ren := {
  sizeBuilder := by kernel_rfl
  liesBuilder := by kernel_rfl
  t5 := Tryz.underlying5
  a5 := Tryz.isAgg5
  z5 := Tryz.sizeOf5
  v5 := Tryz.zeroValue5
  infoByte := by kernel_rfl
  cellsByte := by kernel_rfl
  sizeByte := by kernel_rfl
  neB5 := by decide }
open Go.RowKit Go.Lib in
/-- **strings.Repeat: count ≥ 0, the result within one allocation: count copies of s.** (LAID: no walk: one application.) -/
theorem Tryz.strings_Repeat (s : ByteArray) (c : Nat) (w : World) (hc : c ≤ 9223372036854775807) (hlen : s.size * c ≤ 140737488355328) :
    Calls Tryz.prog 85 #[.string s, .int .i64 c] w fun e w' => e = .returned (.string ⟨(Lib.repeatL s.data.toList c).toArray⟩) ∧ Below w.heap.size w w' := Any.strings_Repeat Tryz.lays105 Tryz.Builder_Extra_105 s c w hc hlen
def Tryz.laysNm215_ren : Go.Shelf.Ren := ⟨fun | 15 => 100 | n => n, fun | 22 => 25 | 3 => 3 | 4 => 4 | n => n, fun | n => n⟩
theorem Tryz.laysNm215 : Go.Proofs.Lays2.n15 Tryz.prog Tryz.laysNm215_ren := {
  mixed := by kernel_rfl
  f15 := Tryz.func100.trans (congrArg some (by kernel_rfl))
  t3 := Tryz.underlying3
  a3 := Tryz.isAgg3
  z3 := Tryz.sizeOf3
  v3 := Tryz.zeroValue3
  t4 := Tryz.underlying4
  a4 := Tryz.isAgg4
  z4 := Tryz.sizeOf4
  v4 := Tryz.zeroValue4
  t22 := Tryz.underlying25
  a22 := Tryz.isAgg25
  z22 := Tryz.sizeOf25
  v22 := Tryz.zeroValue25
  i3 := by kernel_rfl }
open Go.RowKit Go.Lib in
/-- slices.Clone at []int: "Clone returns a copy of the slice. The elements are copied using assignment, so this is a shallow clone. The result may have additional unused capacity. The result preserves the nilness of s.": OF A SLICE THAT IS NOT nil IT RETURNS A SLICE THAT IS NOT nil, OF THE SAME ELEMENTS, IN MEMORY OF THE CALL's OWN: in the how-to's words (6f): 'w'.ownsRow B e 1 v' n cells': v' begins at the head of a row among the blocks from B on (B: the heap's size at the call), not frozen, whose first cells are the elements · 'Below B w w'': below B all is as it was. The capacity is whatever the run-time gives. 'zs': what the cells behind the slice's address hold; 'zs.take n': its elements. (LAID: no walk: one application.) -/
theorem Tryz.slices_Clone_int (b off n c : Nat) (zs : List Int) (w : World) (hz : n ≤ zs.length) (hbig : n * 8 ≤ 140737488355328) (hc : ∀ j, j < zs.length → w.cell? ⟨b, off + j, none⟩ = some (.int .i64 (zs.getD j 0))) :
    Calls Tryz.prog 100 #[.slice (some ⟨b, off, none⟩) n c] w fun e w' => ∃ v', e = .returned v' ∧ w'.ownsRow w.heap.size 3 1 v' n ((zs.take n).map (Value.int .i64)) ∧ v' ≠ .slice none 0 0 ∧ Below w.heap.size w w' := Any.slices_Clone_int Tryz.laysNm215 b off n c zs w hz hbig hc
open Go.RowKit Go.Lib in
/-- The same at nil: nil comes back; the world is as it was. (LAID: no walk: one application.) -/
theorem Tryz.slices_Clone_int_nil (n c : Nat) (w : World) :
    Calls Tryz.prog 100 #[.slice none n c] w fun e w' => e = .returned (.slice none 0 0) ∧ w' = w := Any.slices_Clone_int_nil Tryz.laysNm215 n c w
open Go.RowKit Go.Lib in
/-- The same at a slice of length 0 that is not nil, WHATEVER ITS ADDRESS (no cell is asked for): a slice that is not nil and owns nothing comes back. (LAID: no walk: one application.) -/
theorem Tryz.slices_Clone_int_zero (a : Addr) (c : Nat) (w : World) :
    Calls Tryz.prog 100 #[.slice (some a) 0 c] w fun e w' => ∃ v', e = .returned v' ∧ w'.ownsRow w.heap.size 3 1 v' 0 [] ∧ v' ≠ .slice none 0 0 ∧ Below w.heap.size w w' := Any.slices_Clone_int_zero Tryz.laysNm215 a c w
end Go.Proofs
end

/- ==== the text W21 ==== -/
section
/- The walks of the library's numbers out of hexadecimal digits, of a value's digits, and of what a value is made of. -/
namespace Go.Proofs.Pt
open Go Go.RowKit

theorem or32 (z : Int) (h0 : 65 ≤ z) (h1 : z ≤ 70) : bits .or .u8 z 32 = z + 32 := by
  have : z = 65 ∨ z = 66 ∨ z = 67 ∨ z = 68 ∨ z = 69 ∨ z = 70 := by omega
  rcases this with rfl | rfl | rfl | rfl | rfl | rfl <;> decide +kernel
theorem lower_any (z : Int) (h0 : 65 ≤ z) (h1 : z ≤ 70) (w : World) : Calls Tryz.prog 173 #[.int .u8 z] w fun e w' => e = .returned (.int .u8 (z + 32)) ∧ w' = w := by
  have h := or32 z h0 h1
  go_enter Tryz.func173, Tryz.ntmps173
  go_wp2
  go_ret
  exact ⟨rfl, rfl⟩
theorem parseH_snoc (l : List UInt8) (c : UInt8) : parseH (l ++ [c]) = parseH l * 16 + hexV c := by simp [parseH, List.foldl_append]
theorem hexV_lt {c : UInt8} (h : isHex c = true) : hexV c < 16 := by
  unfold isHex at h
  unfold hexV
  simp at h
  split <;> omega
theorem parse_lt : ∀ (l : List UInt8) (a : Nat), (∀ x ∈ l, isHex x = true) → l.foldl (fun n c => n * 16 + hexV c) a < (a + 1) * 16 ^ l.length
  | [], a, _ => by simp
  | c :: l, a, h => by
    have h1 := hexV_lt (h c (by simp))
    have h2 := parse_lt l (a * 16 + hexV c) fun x hx => h x (by simp [hx])
    rw [List.foldl_cons, List.length_cons, Nat.pow_succ]
    have h3 : (a * 16 + hexV c + 1) * 16 ^ l.length ≤ ((a + 1) * 16) * 16 ^ l.length := Nat.mul_le_mul_right _ (by omega)
    have h4 : (a + 1) * (16 ^ l.length * 16) = ((a + 1) * 16) * 16 ^ l.length := by rw [Nat.mul_comm (16 ^ l.length) 16, Nat.mul_assoc]
    omega
theorem parseH_lt (l : List UInt8) (h : ∀ x ∈ l, isHex x = true) : parseH l < 16 ^ l.length := by
  have := parse_lt l 0 h
  simpa [parseH] using this
def UintPost (w : World) (t : ByteArray) (e : Ending) (w' : World) : Prop := e = .returned (.tuple #[.int .u64 (parseH t.data.toList), .nilIface]) ∧ Below w.heap.size w w'
set_option maxHeartbeats 4000000 in
set_option maxRecDepth 100000 in
theorem uint_any (t : ByteArray) (hne : t.size ≠ 0) (hmax : t.size ≤ 7) (hx : ∀ x ∈ t.data.toList, isHex x = true) (w : World) :
    Calls Tryz.prog 151 #[.string t, .int .i64 16, .int .i64 32] w (UintPost w t) := by
  have hemp : t.toList.isEmpty = false := by
    rw [← decide_eq_emptyBytes]
    exact decide_eq_false (fun h => hne (by rw [h]; rfl))
  have hcv := Lib.run_convert_string_bytes (P := Tryz.prog) w 9 118 5 t (u := .string) Tryz.underlying9 Tryz.underlying118 Tryz.underlying5
  have hB : ∀ j, j < t.size → (Lib.bytesWorld w 5 t).cell? ⟨w.heap.size, j, none⟩ = some (.int .u8 (t.data.toList.getD j 0).toNat) := fun j hj => Lib.bytesWorld_cell w 5 t j hj
  have hW : Hid (Below w.heap.size w (Lib.bytesWorld w 5 t)) := by
    exact Lib.bytesWorld_below w _ t
  obtain ⟨W1, hW1⟩ : ∃ W1, W1 = Lib.bytesWorld w 5 t := ⟨_, rfl⟩
  rw [← hW1] at hcv hB hW
  clear hW1
  obtain ⟨bs, hL⟩ : ∃ bs, bs = t.data.toList := ⟨_, rfl⟩
  have hLn : bs.length = t.size := by rw [hL, Lib.size_eq]
  rw [← hL] at hB hx
  have HL := Lib.hid hL; clear hL
  have HLN := Lib.hid hLn; clear hLn
  have HX := Lib.hid hx; clear hx
  go_enter Tryz.func151, Tryz.ntmps151
  go_wp2
  go_loop [12, 13, 101] (fun vu vn vi => ∃ (k : Nat) (a : Int), vu = .bool false ∧ vn = .int .u64 a ∧ vi = .int .i64 k ∧ k ≤ t.size ∧ Hid (a = (parseH (bs.take k) : Int)))
    (fun _ _ vi => t.size - (intOf vi).toNat)
  case atStart => exact ⟨0, 0, rfl, rfl, rfl, by omega, by show (0 : Int) = _; simp [parseH]⟩
  case round =>
    obtain ⟨k, a, rfl, rfl, rfl, hk, hh⟩ := hrel
    by_cases hkn : k < t.size
    · have hc := hB k hkn
      have hkb : k < bs.length := by have := HLN.out; omega
      have hget : bs.getD k 0 = bs[k] := by simp [List.getD, List.getElem?_eq_getElem hkb]
      have hxk := HX.out bs[k] (List.getElem_mem hkb)
      have hlt := parseH_lt (bs.take k) (fun x hx => HX.out x (List.mem_of_mem_take hx))
      have hlen : (bs.take k).length = k := by simp; omega
      rw [hlen] at hlt
      have h16 : 16 ^ k ≤ 16 ^ 6 := Nat.pow_le_pow_right (by decide) (by omega)
      have hsn : parseH (bs.take (k + 1)) = parseH (bs.take k) * 16 + hexV bs[k] := by rw [List.take_succ_eq_append_getElem hkb, parseH_snoc]
      rw [hget] at hc
      have e := hh.out
      generalize parseH (bs.take k) = p at e hlt hsn
      generalize hcc : bs[k] = c at hc hxk hsn
      have a0 : 0 ≤ a := by omega
      have a1 : a < 16777216 := by
        have : (16 : Nat) ^ 6 = 16777216 := by decide
        omega
      obtain ⟨z, hz⟩ : ∃ z : Int, z = (c.toNat : Int) := ⟨_, rfl⟩
      rw [← hz] at hc
      unfold isHex at hxk
      simp only [Bool.or_eq_true, Bool.and_eq_true, decide_eq_true_eq] at hxk
      have HN : Hid ((c.toNat ≤ 57 → a * 16 + (z - 48) = (parseH (bs.take (k + 1)) : Int)) ∧ (¬ c.toNat ≤ 57 → a * 16 + (z - 55) = (parseH (bs.take (k + 1)) : Int))) := by
        show _ ∧ _
        rw [hsn]
        unfold hexV
        constructor
        · intro h; rw [if_pos h]; omega
        · intro h; rw [if_neg h]; omega
      clear hB hget hsn hcc hlt h16 hlen hh e
      by_cases hdig : c.toNat ≤ 57
      · have z0 : 48 ≤ z := by omega
        have z1 : z ≤ 57 := by omega
        have HN2 := Lib.hid (HN.out.1 hdig)
        clear HN hxk hdig hz
        go_wp2
        refine ⟨⟨k + 1, a * 16 + (z - 48), rfl, rfl, by go_num, by omega, HN2⟩, by simp [intOf]; omega⟩
      · have z0 : 65 ≤ z := by omega
        have z1 : z ≤ 70 := by omega
        have HN2 := Lib.hid (HN.out.2 hdig)
        have e1 : IntKind.u8.wrap (z + 32 - 97) = z - 65 := by rw [IntKind.wrap_u8]; omega
        clear HN hxk hdig hz
        go_wp2_with (go_at_call 173; refine (lower_any _ (by omega) (by omega) _).mono ?_; rintro e w' ⟨rfl, rfl⟩)
        refine ⟨⟨k + 1, a * 16 + (z - 65 + 10), rfl, rfl, by go_num, by omega, by have := HN2.out; show _ = _; omega⟩, by simp [intOf]; omega⟩
    · obtain rfl : k = t.size := by omega
      have e := hh.out
      rw [List.take_of_length_le (by have := HLN.out; omega)] at e
      have E := Lib.hid e
      clear hB hh e
      go_wp2
      go_ret2
      exact ⟨by rw [E.out, HL.out]; rfl, hW.out⟩
def IntPost (w : World) (t : ByteArray) (e : Ending) (w' : World) : Prop := e = .returned (.tuple #[.int .i64 (parseH t.data.toList), .nilIface]) ∧ Below w.heap.size w w'
set_option maxHeartbeats 1000000 in
theorem iint_any (t : ByteArray) (hne : t.size ≠ 0) (hmax : t.size ≤ 7) (hx : ∀ x ∈ t.data.toList, isHex x = true) (w : World) :
    Calls Tryz.prog 118 #[.string t, .int .i64 16, .int .i64 32] w (IntPost w t) := by
  have hemp : t.toList.isEmpty = false := by
    rw [← decide_eq_emptyBytes]
    exact decide_eq_false (fun h => hne (by rw [h]; rfl))
  have h0 : 0 < t.size := by omega
  have hz0 : (0 : Int) < (t.size : Int) := by omega
  have hget : t[0] ∈ t.data.toList := by simp [ByteArray.getElem_eq_getElem_data]
  have hx0 := hx _ hget
  unfold isHex at hx0
  simp only [Bool.or_eq_true, Bool.and_eq_true, decide_eq_true_eq] at hx0
  have g1 : (((t[0]).toNat : Int) == 43) = false := by simpa using (by omega : ¬ ((t[0]).toNat : Int) = 43)
  have g2 : (((t[0]).toNat : Int) == 45) = false := by simpa using (by omega : ¬ ((t[0]).toNat : Int) = 45)
  have hlt := parseH_lt t.data.toList hx
  have h16 : 16 ^ t.data.toList.length ≤ 16 ^ 7 := Nat.pow_le_pow_right (by decide) (by rw [← Lib.size_eq]; omega)
  have hb : (parseH t.data.toList : Int) < 268435456 := by
    have : (16 : Nat) ^ 7 = 268435456 := by decide
    omega
  have hb0 : 0 ≤ (parseH t.data.toList : Int) := by omega
  have HX := Lib.hid hx
  clear hlt h16 hget hx0 hx
  go_enter Tryz.func118, Tryz.ntmps118
  obtain ⟨p, hp⟩ : ∃ p : Int, p = (parseH t.data.toList : Int) := ⟨_, rfl⟩
  rw [← hp] at hb hb0
  have HP := Lib.hid hp; clear hp
  go_wp2_with fail
  refine (uint_any _ hne hmax HX.out _).mono ?_
  rintro e w' ⟨rfl, hb'⟩
  rw [← HP.out]
  have HB := Lib.hid hb'; clear hb'
  go_wp2
  go_ret2
  exact ⟨by rw [HP.out]; rfl, HB.out⟩
theorem int_any (t : ByteArray) (hne : t.size ≠ 0) (hmax : t.size ≤ 7) (hx : ∀ x ∈ t.data.toList, isHex x = true) (w : World) :
    Calls Tryz.prog 87 #[.string t, .int .i64 16, .int .i64 32] w (IntPost w t) := by
  have HX := Lib.hid hx; clear hx
  go_enter Tryz.func87, Tryz.ntmps87
  go_wp2_with fail
  refine (iint_any _ hne hmax HX.out _).mono ?_
  rintro e w' ⟨rfl, hb'⟩
  have HB := Lib.hid hb'; clear hb'
  go_wp2
  go_ret2
  exact ⟨rfl, HB.out⟩
end Go.Proofs.Pt
end

/- ==== the text WB ==== -/
section
/- A body that only lays literals, one operation behind the other, is run by the kernel at once: what it leaves, whatever the world. -/
namespace Go.Proofs.Pt
open Go

/-- Operations one behind the other, none of which is guarded, calls, draws or halts. -/
def foldOps (P : Program) : List Oper → Act → World → Option (Act × World)
  | [], a, w => some (a, w)
  | o :: rest, a, w =>
    match o.guard, (execOp a.eval o).run P w with
    | none, .ok (.value v) w' => foldOps P rest (a.put o.dst v) w'
    | none, .ok .skip w' => foldOps P rest (a.put o.dst undef) w'
    | _, _ => none
def foldCode (P : Program) : Code → Act → World → Option (Exit × Act × World)
  | .region _ ops false, a, w => match foldOps P ops.toList a w with | some (a', w') => some (.normal, a', w') | none => none
  | .seq x y, a, w => match foldCode P x a w with | some (.normal, a', w') => foldCode P y a' w' | r => r
  | .ret, a, w => some (.ret, a, w)
  | .skip, a, w => some (.normal, a, w)
  | _, _, _ => none
theorem wpList_fold {P : Program} {ops : Array Oper} {Q : Exit → Act → World → Prop} : ∀ (l : List Oper) {a a' : Act} {w w' : World}, foldOps P l a w = some (a', w') → Q .normal a' w' → wpList P ops Q l a w
  | [], a, a', w, w', h, hQ => by
    simp only [foldOps, Option.some.injEq, Prod.mk.injEq] at h
    obtain ⟨rfl, rfl⟩ := h
    exact hQ
  | o :: rest, a, a', w, w', h, hQ => by
    simp only [foldOps] at h
    split at h
    · rename_i v w1 hg hr
      refine wpList_plain hg fun K hK => ?_
      show o.upon P a K Q ((execOp a.eval o).run P w)
      rw [hr]
      exact hK _ _ (wpList_fold rest h hQ)
    · rename_i w1 hg hr
      refine wpList_plain hg fun K hK => ?_
      show o.upon P a K Q ((execOp a.eval o).run P w)
      rw [hr]
      exact hK _ _ (wpList_fold rest h hQ)
    · cases h
theorem wp_fold {P : Program} : ∀ (c : Code) {Q : Exit → Act → World → Prop} {a a' : Act} {w w' : World} {e : Exit}, foldCode P c a w = some (e, a', w') → Q e a' w' → c.wp P Q a w := by
  intro c
  induction c with
  | region id ops b =>
    intro Q a a' w w' e h hQ
    cases b with
    | true => simp [foldCode] at h
    | false =>
      simp only [foldCode] at h
      split at h
      · rename_i a1 w1 hr
        simp only [Option.some.injEq, Prod.mk.injEq] at h
        obtain ⟨rfl, rfl, rfl⟩ := h
        exact wp_region_list (wpList_fold _ hr hQ)
      · cases h
  | seq x y ihx ihy =>
    intro Q a a' w w' e h hQ
    refine wp_seq ?_
    simp only [foldCode] at h
    split at h
    · rename_i a1 w1 hr
      exact ihx hr (ihy h hQ)
    · rename_i r hne
      refine ihx h ?_
      cases e with
      | normal => exact absurd h (by intro h'; exact hne a' w' h')
      | _ => exact hQ
  | ret => intro Q a a' w w' e h hQ; simp only [foldCode, Option.some.injEq, Prod.mk.injEq] at h; obtain ⟨rfl, rfl, rfl⟩ := h; exact wp_ret hQ
  | skip => intro Q a a' w w' e h hQ; simp only [foldCode, Option.some.injEq, Prod.mk.injEq] at h; obtain ⟨rfl, rfl, rfl⟩ := h; exact wp_skip hQ
  | _ => intro Q a a' w w' e h hQ; simp [foldCode] at h
/-- Such a body's call, out of three closed facts. -/
theorem calls_fold {P : Program} {f : FuncId} {fn : Func} {c : Code} {args : Array Value} {w w' : World} {a' : Act} {v : Value} {R : Ending → World → Prop} (hf : P.funcs[f]? = some fn) (hb : fn.body = some c)
    (h : foldCode P c { tmps := args ++ Array.replicate (fn.ntmps - args.size) undef, defers := [] } w = some (.ret, a', w')) (hd : a'.defers = []) (hr : (results fn a'.tmps).run P w' = .ok v w') (hR : R (.returned v) w') : Calls P f args w R :=
  calls_of_wp hf hb (wp_fold c h ⟨hd, v, hr, hR⟩)

/-! ### the same, a frame told by what was put last -/
def lookS : List (Nat × Value) → Nat → Value
  | [], _ => undef
  | (k, v) :: l, i => if k = i then v else lookS l i
def evS (l : List (Nat × Value)) : Operand → Value
  | .tmp t => lookS l t
  | .const v => v
  | .global g => .pointer (some ⟨g, 0, none⟩)
  | .func f => .func (.func f) #[] #[]
def foldS (P : Program) (n : Nat) : List Oper → List (Nat × Value) → World → Option (List (Nat × Value) × World)
  | [], l, w => some (l, w)
  | o :: rest, l, w =>
    match o.guard, o.dst, (execOp (evS l) o).run P w with
    | none, some d, .ok (.value v) w' => if d < n then foldS P n rest ((d, v) :: l) w' else none
    | _, _, _ => none
def foldC (P : Program) (n : Nat) : Code → List (Nat × Value) → World → Option (Bool × List (Nat × Value) × World)
  | .region _ ops false, l, w => match foldS P n ops.toList l w with | some (l', w') => some (false, l', w') | none => none
  | .seq x y, l, w => match foldC P n x l w with | some (false, l', w') => foldC P n y l' w' | r => r
  | .ret, l, w => some (true, l, w)
  | _, _, _ => none
structure Agrees (n : Nat) (a : Act) (l : List (Nat × Value)) : Prop where
  size : a.tmps.size = n
  defers : a.defers = []
  at_ : ∀ t, a.tmps.getD t undef = lookS l t
theorem Agrees.eval {n : Nat} {a : Act} {l : List (Nat × Value)} (h : Agrees n a l) : a.eval = evS l := by
  funext o
  cases o with
  | tmp t => exact h.at_ t
  | _ => rfl
theorem Agrees.put {n : Nat} {a : Act} {l : List (Nat × Value)} (h : Agrees n a l) {d : Nat} (hd : d < n) (v : Value) : Agrees n (a.put (some d) v) ((d, v) :: l) := by
  refine ⟨?_, ?_, fun t => ?_⟩
  · simp [Act.put, h.size]
  · simp [Act.put, h.defers]
  · have h1 := h.at_ t
    have h2 := h.size
    simp only [Act.put, lookS]
    simp only [Array.getD_eq_getD_getElem?] at h1 ⊢
    rw [Array.getElem?_setIfInBounds]
    by_cases e : d = t
    · subst e; simp [h2, hd]
    · simp [e]; exact h1
theorem agrees_start (n : Nat) : Agrees n { tmps := Array.replicate n undef, defers := [] } [] := by
  refine ⟨by simp, rfl, fun t => ?_⟩
  simp only [lookS, Array.getD_eq_getD_getElem?, Array.getElem?_replicate]
  split <;> rfl
theorem wpList_foldS {P : Program} {n : Nat} {ops : Array Oper} {Q : Exit → Act → World → Prop} : ∀ (l : List Oper) {a : Act} {s s' : List (Nat × Value)} {w w' : World}, foldS P n l s w = some (s', w') → Agrees n a s → (∀ a', Agrees n a' s' → Q .normal a' w') → wpList P ops Q l a w
  | [], a, s, s', w, w', h, hA, hQ => by
    simp only [foldS, Option.some.injEq, Prod.mk.injEq] at h
    obtain ⟨rfl, rfl⟩ := h
    exact hQ a hA
  | o :: rest, a, s, s', w, w', h, hA, hQ => by
    simp only [foldS] at h
    split at h
    · rename_i d v w1 hg hd hr
      split at h
      · rename_i hn
        refine wpList_plain hg fun K hK => ?_
        show o.upon P a K Q ((execOp a.eval o).run P w)
        rw [hA.eval, hr]
        show K (a.put o.dst v) w1
        rw [hd]
        exact hK _ _ (wpList_foldS rest h (hA.put hn v) hQ)
      · cases h
    · cases h
theorem wp_foldC {P : Program} {n : Nat} : ∀ (c : Code) {Q : Exit → Act → World → Prop} {a : Act} {s s' : List (Nat × Value)} {w w' : World} {b : Bool}, foldC P n c s w = some (b, s', w') → Agrees n a s → (∀ a', Agrees n a' s' → Q (if b then .ret else .normal) a' w') → c.wp P Q a w := by
  intro c
  induction c with
  | region id ops b =>
    intro Q a s s' w w' e h hA hQ
    cases b with
    | true => simp [foldC] at h
    | false =>
      simp only [foldC] at h
      split at h
      · rename_i a1 w1 hr
        simp only [Option.some.injEq, Prod.mk.injEq] at h
        obtain ⟨rfl, rfl, rfl⟩ := h
        exact wp_region_list (wpList_foldS _ hr hA hQ)
      · cases h
  | seq x y ihx ihy =>
    intro Q a s s' w w' e h hA hQ
    refine wp_seq ?_
    simp only [foldC] at h
    split at h
    · rename_i s1 w1 hr
      exact ihx hr hA fun a1 h1 => ihy h h1 hQ
    · rename_i r hne
      refine ihx h hA fun a1 h1 => ?_
      cases e with
      | false => exact absurd h (by intro h'; exact hne s' w' h')
      | true => exact hQ a1 h1
  | ret => intro Q a s s' w w' e h hA hQ; simp only [foldC, Option.some.injEq, Prod.mk.injEq] at h; obtain ⟨rfl, rfl, rfl⟩ := h; exact wp_ret (hQ a hA)
  | _ => intro Q a s s' w w' e h hA hQ; simp [foldC] at h
def toldS (P : Program) (fn : Func) (r : Nat) (w : World) : Option (Value × World) := match fn.body with | none => none | some c => match foldC P fn.ntmps c [] w with | some (true, l, w') => some (lookS l r, w') | _ => none
/-- Such a body's call, out of one closed fact. -/
theorem calls_told {P : Program} {f : FuncId} {fn : Func} (r : Nat) {w w' : World} {v : Value} {R : Ending → World → Prop} (hf : P.funcs[f]? = some fn) (hs : ∀ (tmps : Array Value) (w : World), (results fn tmps).run P w = .ok (tmps.getD r undef) w)
    (h : toldS P fn r w = some (v, w')) (hR : R (.returned v) w') : Calls P f #[] w R := by
  unfold toldS at h
  split at h
  · cases h
  · rename_i c hb
    split at h
    · rename_i l w1 hc
      simp only [Option.some.injEq, Prod.mk.injEq] at h
      obtain ⟨rfl, rfl⟩ := h
      refine calls_of_wp hf hb (wp_foldC c hc (by simpa using agrees_start fn.ntmps) fun a' hA => ?_)
      exact ⟨hA.defers, _, by rw [hs, hA.at_ r], hR⟩
    · cases h

end Go.Proofs.Pt
end

/- ==== the text P1 ==== -/
section
/- The search in the halves of the table of pairs finds what the whole table says. No program is in sight here. -/
namespace Go.Proofs.Pt

def cmpI (x y : Int) : Int := if x < y then -1 else if y < x then 1 else 0
def orI (x y : Int) : Int := if x = 0 then y else x
def lexI (a b c d : Int) : Int := orI (cmpI a c) (cmpI b d)
/-- Where a table's place stands to a pair. -/
def keyI (T : List (Int × Int × Int)) (a b : Int) (i : Nat) : Int := lexI (T.getD i (0, 0, 0)).1 (T.getD i (0, 0, 0)).2.1 a b
theorem cmpI_lt {x y : Int} : cmpI x y < 0 ↔ x < y := by unfold cmpI; split <;> (try split) <;> omega
theorem cmpI_zero {x y : Int} : cmpI x y = 0 ↔ x = y := by unfold cmpI; split <;> (try split) <;> omega
theorem lexI_zero {a b c d : Int} : lexI a b c d = 0 ↔ a = c ∧ b = d := by
  unfold lexI orI
  split
  · rename_i h; rw [cmpI_zero] at h ⊢; simp [h]
  · rename_i h; rw [cmpI_zero] at h; constructor
    · intro h'; rw [cmpI_zero] at h'; exact absurd h' h
    · intro h'; exact absurd h'.1 h
theorem lexI_lt {a b c d : Int} : lexI a b c d < 0 ↔ a < c ∨ (a = c ∧ b < d) := by
  unfold lexI orI
  split
  · rename_i h; rw [cmpI_zero] at h; rw [cmpI_lt]; omega
  · rename_i h; rw [cmpI_zero] at h; rw [cmpI_lt]; omega
/-- Pair by pair rising. -/
def Asc : List (Int × Int × Int) → Prop
  | [] => True
  | [_] => True
  | x :: y :: l => (x.1 < y.1 ∨ (x.1 = y.1 ∧ x.2.1 < y.2.1)) ∧ Asc (y :: l)
def ascB : List (Int × Int × Int) → Bool
  | [] => true
  | [_] => true
  | x :: y :: l => (decide (x.1 < y.1) || (decide (x.1 = y.1) && decide (x.2.1 < y.2.1))) && ascB (y :: l)
theorem asc_of : ∀ l, ascB l = true → Asc l
  | [], _ => trivial
  | [_], _ => trivial
  | x :: y :: l, h => by
    simp only [ascB, Bool.and_eq_true, Bool.or_eq_true, decide_eq_true_eq] at h
    exact ⟨h.1, asc_of _ h.2⟩
theorem Asc.tail {x : Int × Int × Int} : ∀ {l}, Asc (x :: l) → Asc l
  | [], _ => trivial
  | _ :: _, h => h.2
theorem Asc.head : ∀ (l : List (Int × Int × Int)) (x : Int × Int × Int), Asc (x :: l) → ∀ y ∈ l, x.1 < y.1 ∨ (x.1 = y.1 ∧ x.2.1 < y.2.1)
  | [], _, _ => by simp
  | z :: l, x, h => by
    intro y hy
    rcases List.mem_cons.1 hy with rfl | hy
    · exact h.1
    · have h1 := Asc.head l z h.2 y hy
      have h2 := h.1
      omega
theorem Asc.lt : ∀ (l : List (Int × Int × Int)), Asc l → ∀ i j, i < j → j < l.length → (l.getD i (0, 0, 0)).1 < (l.getD j (0, 0, 0)).1 ∨ ((l.getD i (0, 0, 0)).1 = (l.getD j (0, 0, 0)).1 ∧ (l.getD i (0, 0, 0)).2.1 < (l.getD j (0, 0, 0)).2.1)
  | [], _ => by intro i j _ h; simp at h
  | x :: l, h => by
    intro i j hij hj
    cases j with
    | zero => omega
    | succ j =>
      have hj' : j < l.length := by simpa using hj
      cases i with
      | zero =>
        have := Asc.head l x h (l.getD j (0, 0, 0)) (by rw [List.getD_eq_getElem?_getD, List.getElem?_eq_getElem hj']; simp)
        simpa using this
      | succ i => simpa using Asc.lt l h.tail i j (by omega) hj'
theorem key_mono {T : List (Int × Int × Int)} (h : Asc T) (a b : Int) (i j : Nat) (hij : i ≤ j) (hj : j < T.length) (hk : keyI T a b j < 0) : keyI T a b i < 0 := by
  by_cases e : i = j
  · rw [e]; exact hk
  · have h1 := h.lt T i j (by omega) hj
    unfold keyI at hk ⊢
    rw [lexI_lt] at hk ⊢
    omega
theorem assoc2_get : ∀ (T : List (Int × Int × Int)), Asc T → ∀ (a b : Int) (k : Nat), k < T.length → keyI T a b k = 0 → assoc2 T a b = some (T.getD k (0, 0, 0)).2.2
  | [], _ => by intro a b k h; simp at h
  | (x, y, v) :: T, h => by
    intro a b k hk hz
    unfold keyI at hz
    rw [lexI_zero] at hz
    cases k with
    | zero => simp at hz; simp [assoc2, hz.1, hz.2]
    | succ k =>
      have hk' : k < T.length := by simpa using hk
      simp only [List.getD_cons_succ] at hz ⊢
      have h1 : x < (T.getD k (0, 0, 0)).1 ∨ (x = (T.getD k (0, 0, 0)).1 ∧ y < (T.getD k (0, 0, 0)).2.1) := Asc.head T (x, y, v) h (T.getD k (0, 0, 0)) (by rw [List.getD_eq_getElem?_getD, List.getElem?_eq_getElem hk']; simp)
      simp only [assoc2]
      rw [if_neg (by omega)]
      exact assoc2_get T h.tail a b k hk' (by unfold keyI; rw [lexI_zero]; exact hz)
theorem assoc2_out {T : List (Int × Int × Int)} {a b : Int} (h : ∀ i, i < T.length → keyI T a b i ≠ 0) : assoc2 T a b = none := by
  refine assoc2_none fun x hx => ?_
  obtain ⟨i, hi, rfl⟩ := List.getElem_of_mem hx
  have := h i hi
  unfold keyI at this
  rw [ne_eq, lexI_zero] at this
  rwa [List.getD_eq_getElem?_getD, List.getElem?_eq_getElem hi] at this
theorem assoc2_append : ∀ (A B : List (Int × Int × Int)) (a b : Int), assoc2 (A ++ B) a b = (assoc2 A a b).or (assoc2 B a b)
  | [], B, a, b => by simp [assoc2]
  | (x, y, v) :: A, B, a, b => by
    simp only [List.cons_append, assoc2]
    split
    · rfl
    · exact assoc2_append A B a b
/-- What the search comes to, in a table that rises. -/
theorem found {T : List (Int × Int × Int)} (h : Asc T) {a b : Int} {k : Nat} (h1 : ∀ i, i < k → keyI T a b i < 0) (h2 : ∀ i, k ≤ i → i < T.length → 0 ≤ keyI T a b i) :
    (k < T.length ∧ keyI T a b k = 0 → assoc2 T a b = some (T.getD k (0, 0, 0)).2.2) ∧ (¬ (k < T.length ∧ keyI T a b k = 0) → assoc2 T a b = none) := by
  refine ⟨fun hk => assoc2_get T h a b k hk.1 hk.2, fun hk => assoc2_out fun i hi => ?_⟩
  by_cases e : i < k
  · have := h1 i e; omega
  · intro hz
    by_cases e2 : i = k
    · subst e2; exact hk ⟨hi, hz⟩
    · have h3 := h2 k (Nat.le_refl _) (by omega)
      have h4 := h.lt T k i (by omega) hi
      unfold keyI at hz h3
      rw [lexI_zero] at hz
      have h5 : lexI (T.getD k (0, 0, 0)).1 (T.getD k (0, 0, 0)).2.1 a b < 0 := lexI_lt.2 (by omega)
      omega
def lowT : List (Int × Int × Int) := pairT.take 156
def highT : List (Int × Int × Int) := pairT.drop 156
theorem pairT_asc : Asc pairT := asc_of _ (by decide +kernel)
theorem lowT_asc : Asc lowT := asc_of _ (by decide +kernel)
theorem highT_asc : Asc highT := asc_of _ (by decide +kernel)
theorem lowT_length : lowT.length = 156 := by decide +kernel
theorem pairT_length : pairT.length ≤ 1000 := by decide +kernel
theorem pairT_halves : pairT = lowT ++ highT := (List.take_append_drop 156 pairT).symm
theorem lowT_get (i : Nat) (hi : i < 156) : lowT.getD i (0, 0, 0) = pairT.getD i (0, 0, 0) := by
  have : i < pairT.length := by have h := pairT_halves; have := congrArg List.length h; rw [List.length_append, lowT_length] at this; omega
  unfold lowT
  simp [List.getD_eq_getElem?_getD, hi]
theorem highT_get (i : Nat) : highT.getD i (0, 0, 0) = pairT.getD (156 + i) (0, 0, 0) := by
  unfold highT
  simp [List.getD_eq_getElem?_getD, List.getElem?_drop]
theorem pairT_size : pairT.length = 156 + highT.length := by
  have := congrArg List.length pairT_halves; rw [List.length_append, lowT_length] at this; exact this
/-- Behind the last pair of the first half it is the second half that tells. -/
theorem half_high {a b : Int} (h : lexI (lowT.getD 155 (0, 0, 0)).1 (lowT.getD 155 (0, 0, 0)).2.1 a b < 0) : assoc2 pairT a b = assoc2 highT a b := by
  rw [pairT_halves, assoc2_append, assoc2_out (T := lowT)]
  · rfl
  · intro i hi
    rw [lowT_length] at hi
    have := key_mono lowT_asc a b i 155 (by omega) (by rw [lowT_length]; omega) h
    omega
theorem half_low {a b : Int} (h : ¬ lexI (lowT.getD 155 (0, 0, 0)).1 (lowT.getD 155 (0, 0, 0)).2.1 a b < 0) : assoc2 pairT a b = assoc2 lowT a b := by
  rw [pairT_halves, assoc2_append, assoc2_out (T := highT)]
  · simp
  · intro i hi hz
    unfold keyI at hz
    rw [lexI_zero, highT_get] at hz
    rw [lexI_lt, lowT_get 155 (by omega)] at h
    have := pairT_asc.lt pairT 155 (156 + i) (by omega) (by rw [pairT_size]; omega)
    omega
theorem lexI_flip {a b c d : Int} : 0 < lexI a b c d ↔ lexI c d a b < 0 := by
  rw [lexI_lt]
  unfold lexI orI cmpI
  split <;> split <;> (try split) <;> (try split) <;> omega

end Go.Proofs.Pt
end

/- ==== the text W1 ==== -/
section
/- The walk of the search among ranges: package prop's 'in', and the classes, kinds and what is dropped, as the table of ranges tells them. -/
namespace Go.Proofs.Pt
open Go.RowKit

theorem below_drewN {B : Nat} {w W : World} (h : Below B w W) (n : Nat) : Below B w (W.drewN n) := ⟨h.os, h.tape, h.output, h.size, h.block⟩

theorem isnan_any (x : Int) (w : World) : Calls Tryz.prog 120 #[.int .i64 x] w fun e w' => e = .returned (.bool false) ∧ w' = w := by
  go_enter Tryz.func120, Tryz.ntmps120
  go_wp2
  go_ret
  exact ⟨by simp, rfl⟩
theorem compare_any (x y : Int) (w : World) : Calls Tryz.prog 90 #[.int .i64 x, .int .i64 y] w fun e w' => e = .returned (.int .i64 (cmpI x y)) ∧ w' = w := by
  go_enter Tryz.func90, Tryz.ntmps90
  go_wp2_with (go_at_call 120; refine (isnan_any _ _).mono ?_; rintro e w' ⟨rfl, rfl⟩)
  · go_ret
    exact ⟨by simp_all [cmpI], rfl⟩
  · go_ret
    have h1 : ¬ x < y := by omega
    exact ⟨by simp_all [cmpI], rfl⟩
  · go_ret
    have h1 : ¬ x < y := by omega
    have h2 : ¬ y < x := by omega
    have h3 : cmpI x y = 0 := by rw [cmpI, if_neg h1, if_neg h2]
    exact ⟨by rw [h3]; rfl, rfl⟩
/-- The search's own question: does a range begin ahead of a value? -/
theorem asks_any (lo hi v r : Int) (w : World) : Calls Tryz.prog 89 #[.agg #[.int .i64 lo, .int .i64 hi, .int .i64 v], .int .i64 r] w fun e w' => e = .returned (.int .i64 (cmpI lo r)) ∧ Below w.heap.size w w' := by
  go_enter Tryz.func89, Tryz.ntmps89
  go_wp2_with (go_at_call 90; refine (compare_any _ _ _).mono ?_; rintro e w' ⟨rfl, rfl⟩)
  go_ret
  exact ⟨rfl, (Below.refl _ _).alloc (Nat.le_refl _) _⟩
/-- At block b of a world the ranges of a table lie. -/
def SpanAt (w : World) (b : Nat) (T : List (Int × Int × Int)) : Prop :=
  ∀ i, i < T.length → w.cell? ⟨b, i * 3, none⟩ = some (.int .i64 (T.getD i (0, 0, 0)).1) ∧ w.cell? ⟨b, i * 3 + 1, none⟩ = some (.int .i64 (T.getD i (0, 0, 0)).2.1) ∧ w.cell? ⟨b, i * 3 + 2, none⟩ = some (.int .i64 (T.getD i (0, 0, 0)).2.2)
theorem SpanAt.below {w w' : World} {b : Nat} {T : List (Int × Int × Int)} (h : SpanAt w b T) (hb : b < w.heap.size) (hw : Below w.heap.size w w') : SpanAt w' b T :=
  fun i hi => ⟨(hw.cell (p := ⟨b, i * 3, none⟩) hb).trans (h i hi).1, (hw.cell (p := ⟨b, i * 3 + 1, none⟩) hb).trans (h i hi).2.1, (hw.cell (p := ⟨b, i * 3 + 2, none⟩) hb).trans (h i hi).2.2⟩
/-- How many ranges begin below a value. -/
def lowN (T : List (Int × Int × Int)) (r : Int) : Nat := T.countP fun x => decide (x.1 < r)
set_option maxHeartbeats 400000 in
theorem search_any (b c : Nat) (T : List (Int × Int × Int)) (r : Int) (w : World) (hT : SpanAt w b T) (hb : b < w.heap.size) (hn : T.length ≤ 1000)
    (hs : ∀ i j, i ≤ j → j < T.length → (T.getD i (0, 0, 0)).1 ≤ (T.getD j (0, 0, 0)).1) :
    Calls Tryz.prog 88 #[.slice (some ⟨b, 0, none⟩) T.length c, .int .i64 r, .func (.func 89) #[] #[]] w fun e w' =>
      ∃ k : Nat, e = .returned (.tuple #[.int .i64 k, .bool (decide (k < T.length ∧ (T.getD k (0, 0, 0)).1 = r))]) ∧ k ≤ T.length ∧ (∀ i, i < k → (T.getD i (0, 0, 0)).1 < r) ∧ (∀ i, k ≤ i → i < T.length → r ≤ (T.getD i (0, 0, 0)).1) ∧ Below w.heap.size w w' := by
  have HS := Lib.hid hs; clear hs
  have HT := Lib.hid hT; clear hT
  have HB := Lib.hid hb; clear hb
  go_enter Tryz.func88, Tryz.ntmps88
  go_wp2
  go_loopw [9, 10, 11] (fun i j _ wr => ∃ x y : Nat, i = .int .i64 x ∧ j = .int .i64 y ∧ x ≤ y ∧ y ≤ T.length ∧ Hid (∀ i, i < x → (T.getD i (0, 0, 0)).1 < r) ∧ Hid (∀ i, y ≤ i → i < T.length → r ≤ (T.getD i (0, 0, 0)).1) ∧ Hid (Below w.heap.size w wr)) (fun i j _ _ => (intOf j).toNat - (intOf i).toNat)
  case atStart => exact ⟨0, T.length, rfl, rfl, by omega, by omega, fun i hi => by omega, fun i h1 h2 => by omega, Below.refl _ _⟩
  case round =>
    obtain ⟨x, y, rfl, rfl, hxy, hyn, H1, H2, HW⟩ := hrel
    by_cases hlt : x < y
    · have hc := (HT.out.below HB.out HW.out) ((x + y) / 2) (by omega)
      have hs1 : (T.getD ((x + y) / 2) (0, 0, 0)).1 < r → ∀ i, i < (x + y) / 2 + 1 → (T.getD i (0, 0, 0)).1 < r := fun h i hi => by
        have := HS.out i ((x + y) / 2) (by omega) (by omega); omega
      have hs2 : ¬ (T.getD ((x + y) / 2) (0, 0, 0)).1 < r → ∀ i, (x + y) / 2 ≤ i → i < T.length → r ≤ (T.getD i (0, 0, 0)).1 := fun h i hi hl => by
        have := HS.out ((x + y) / 2) i hi hl; omega
      generalize T.getD ((x + y) / 2) (0, 0, 0) = p at hc hs1 hs2
      have S1 := Lib.hid hs1; have S2 := Lib.hid hs2; clear hs1 hs2
      obtain ⟨hc1, hc2, hc3⟩ := hc
      have hxz : (x : Int) < (y : Int) := by omega
      have hyz : (y : Int) ≤ 1000 := by omega
      by_cases hp : p.1 < r
      · have hv : cmpI p.1 r < 0 := by unfold cmpI; rw [if_pos hp]; omega
        go_wp2_with (go_at_call 89; refine (asks_any _ _ _ _ _).mono ?_; rintro e w' ⟨rfl, hb'⟩)
        go_roundw
        case measure => simp [intOf]; omega
        case rel => exact ⟨(x + y) / 2 + 1, y, by go_num, rfl, by omega, hyn, S1.out hp, H2, HW.out.trans (hb'.mono HW.out.size)⟩
      · have hv : ¬ cmpI p.1 r < 0 := by unfold cmpI; rw [if_neg hp]; split <;> omega
        go_wp2_with (go_at_call 89; refine (asks_any _ _ _ _ _).mono ?_; rintro e w' ⟨rfl, hb'⟩)
        go_roundw
        case measure => simp [intOf]; omega
        case rel => exact ⟨x, (x + y) / 2, rfl, by go_num, by omega, by omega, H1, S2.out hp, HW.out.trans (hb'.mono HW.out.size)⟩
    · obtain rfl : y = x := by omega
      by_cases hn' : y < T.length
      · have hc := (HT.out.below HB.out HW.out) y hn'
        obtain ⟨p, hp⟩ : ∃ p, p = T.getD y (0, 0, 0) := ⟨_, rfl⟩
        rw [← hp] at hc
        have HP := Lib.hid hp; clear hp
        obtain ⟨hc1, hc2, hc3⟩ := hc
        have hnz : (y : Int) < (T.length : Int) := by omega
        go_wp2_with (go_at_call 89; refine (asks_any _ _ _ _ _).mono ?_; rintro e w' ⟨rfl, hb'⟩)
        go_ret2
        refine ⟨y, ?_, hyn, H1.out, H2.out, HW.out.trans (hb'.mono HW.out.size)⟩
        have e : (cmpI p.1 r == 0) = decide (y < T.length ∧ (T.getD y (0, 0, 0)).1 = r) := by
          rw [← HP.out]
          by_cases h : p.1 = r
          · simp [cmpI, h, hn']
          · simp only [hn', h, and_false, decide_false]
            unfold cmpI
            split
            · rfl
            · rw [if_pos (by omega)]; rfl
        rw [← e]; rfl
      · go_wp2
        go_ret2
        refine ⟨y, ?_, hyn, H1.out, H2.out, HW.out⟩
        simp [hn']
/-- A table of ranges: rising, none empty. -/
def Rising (T : List (Int × Int × Int)) : Prop := (∀ i j, i ≤ j → j < T.length → (T.getD i (0, 0, 0)).1 ≤ (T.getD j (0, 0, 0)).1) ∧ (∀ i j, i < j → j < T.length → (T.getD i (0, 0, 0)).2.1 < (T.getD j (0, 0, 0)).1) ∧ ∀ i, i < T.length → (T.getD i (0, 0, 0)).1 ≤ (T.getD i (0, 0, 0)).2.1
theorem look_at : ∀ (T : List (Int × Int × Int)) (r : Int) (k : Nat), k < T.length → (∀ i, i < k → (T.getD i (0, 0, 0)).2.1 < r) → (T.getD k (0, 0, 0)).1 ≤ r → r ≤ (T.getD k (0, 0, 0)).2.1 → look T r = some (T.getD k (0, 0, 0)).2.2
  | [], _, k, hk, _, _, _ => by simp at hk
  | (lo, hi, v) :: T, r, 0, _, _, h1, h2 => by simp at h1 h2; simp [look, h1, h2]
  | (lo, hi, v) :: T, r, k + 1, hk, h0, h1, h2 => by
    have := h0 0 (by omega)
    simp at this
    simp only [look]
    rw [if_neg (by omega)]
    simpa using look_at T r k (by simpa using hk) (fun i hi => by simpa using h0 (i + 1) (by omega)) (by simpa using h1) (by simpa using h2)
theorem look_out : ∀ (T : List (Int × Int × Int)) (r : Int), (∀ i, i < T.length → r < (T.getD i (0, 0, 0)).1 ∨ (T.getD i (0, 0, 0)).2.1 < r) → look T r = none
  | [], _, _ => rfl
  | (lo, hi, v) :: T, r, h => by
    have := h 0 (by simp)
    simp at this
    simp only [look]
    rw [if_neg (by omega)]
    exact look_out T r fun i hi => by simpa using h (i + 1) (by simpa using hi)
/-- What the search comes to. -/
theorem look_found {T : List (Int × Int × Int)} {r : Int} (hr : Rising T) {k : Nat} (hk : k < T.length) (h : (T.getD k (0, 0, 0)).1 ≤ r) (hu : r ≤ (T.getD k (0, 0, 0)).2.1) : look T r = some (T.getD k (0, 0, 0)).2.2 :=
  look_at T r k hk (fun i hi => by have := hr.2.1 i k hi hk; omega) h hu
theorem look_missed {T : List (Int × Int × Int)} {r : Int} {k : Nat} (h1 : ∀ i, i < k → (T.getD i (0, 0, 0)).2.1 < r) (h2 : ∀ i, k ≤ i → i < T.length → r < (T.getD i (0, 0, 0)).1) : look T r = none :=
  look_out T r fun i hi => by by_cases h : i < k; exact .inr (h1 i h); exact .inl (h2 i (by omega) hi)
def InPost (T : List (Int × Int × Int)) (r : Int) (w : World) (e : Ending) (w' : World) : Prop :=
  ∃ x y v : Int, ∃ ok : Bool, e = .returned (.tuple #[.agg #[.int .i64 x, .int .i64 y, .int .i64 v], .bool ok]) ∧ v = (look T r).getD 0 ∧ ok = (look T r).isSome ∧ Below w.heap.size w w'
set_option maxHeartbeats 400000 in
theorem in_any (b c : Nat) (T : List (Int × Int × Int)) (r : Int) (w : World) (hT : SpanAt w b T) (hb : b < w.heap.size) (hn : T.length ≤ 1000) (hr : Rising T) :
    Calls Tryz.prog 59 #[.slice (some ⟨b, 0, none⟩) T.length c, .int .i64 r] w (InPost T r w) := by
  have HR := Lib.hid hr; clear hr
  have HT := Lib.hid hT; clear hT
  have HB := Lib.hid hb; clear hb
  go_enter Tryz.func59, Tryz.ntmps59
  go_wp2_with fail
  refine (search_any b c T r _ (HT.out.below HB.out ((Below.refl _ _).alloc (Nat.le_refl _) _)) (by have := HB.out; simp; omega) hn HR.out.1).mono ?_
  rintro e w' ⟨k, rfl, hk, h1, h2, hw⟩
  have H1 := Lib.hid h1; have H2 := Lib.hid h2; clear h1 h2
  have hc0 : w'.cell? ⟨w.heap.size, 0, none⟩ = some (.int .i64 0) := (hw.cell (p := ⟨w.heap.size, 0, none⟩) (by simp)).trans (by simp)
  have hc1 : w'.cell? ⟨w.heap.size, 1, none⟩ = some (.int .i64 0) := (hw.cell (p := ⟨w.heap.size, 1, none⟩) (by simp)).trans (by simp)
  have hc2 : w'.cell? ⟨w.heap.size, 2, none⟩ = some (.int .i64 0) := (hw.cell (p := ⟨w.heap.size, 2, none⟩) (by simp)).trans (by simp)
  have hf0 : w'.frozen? ⟨w.heap.size, 0, none⟩ = false := (hw.frozen (p := ⟨w.heap.size, 0, none⟩) (by simp)).trans (by simp)
  have hf1 : w'.frozen? ⟨w.heap.size, 1, none⟩ = false := (hw.frozen (p := ⟨w.heap.size, 1, none⟩) (by simp)).trans (by simp)
  have hf2 : w'.frozen? ⟨w.heap.size, 2, none⟩ = false := (hw.frozen (p := ⟨w.heap.size, 2, none⟩) (by simp)).trans (by simp)
  have hW : Below w.heap.size w w' := ((Below.refl _ _).alloc (Nat.le_refl _) _).trans (hw.mono (by simp))
  have hZ : w.heap.size + 1 ≤ w'.heap.size := by have := hw.size; simpa using this
  clear hw
  by_cases hok : k < T.length ∧ (T.getD k (0, 0, 0)).1 = r
  · have hd : decide (k < T.length ∧ (T.getD k (0, 0, 0)).1 = r) = true := decide_eq_true hok
    rw [hd]
    have hc := HT.out.below HB.out hW k hok.1
    have hp2 := HR.out.2.2 k hok.1
    have hl := look_found (r := r) HR.out hok.1 (by omega) (by omega)
    have HL := Lib.hid hl; clear hl
    generalize T.getD k (0, 0, 0) = p at hc hok hp2 HL
    obtain ⟨hd1, hd2, hd3⟩ := hc
    have hkz : (k : Int) < (T.length : Int) := by omega
    have hpr : p.1 = r := hok.2
    have hnr : ¬ p.2.1 < r := by omega
    clear hok hpr hd
    go_wp2
    refine bodyPost_ret (v := .tuple #[.agg #[.int .i64 p.1, .int .i64 p.2.1, .int .i64 p.2.2], .bool true]) (by simp [results, Tryz.results59, go_sem, hc0, hc1, hc2]) rfl ⟨_, _, _, true, rfl, by rw [HL.out]; rfl, by rw [HL.out]; rfl, ?_⟩
    exact ((hW.setCell (by simp) _).setCell (by simp) _).setCell (by simp) _
  · have hd : decide (k < T.length ∧ (T.getD k (0, 0, 0)).1 = r) = false := decide_eq_false hok
    rw [hd]
    have hl2 : ∀ i, k ≤ i → i < T.length → r < (T.getD i (0, 0, 0)).1 := fun i h1 h2 => by
      have h3 := H2.out i h1 h2
      have h4 := H2.out k (by omega) (by omega)
      have h5 := HR.out.1 k i h1 h2
      by_cases e : (T.getD k (0, 0, 0)).1 = r
      · exact absurd ⟨by omega, e⟩ hok
      · omega
    have L2 := Lib.hid hl2; clear hl2 hok hd
    by_cases hk0 : k = 0
    · have hl := look_missed (T := T) (r := r) (k := k) (fun i hi => by omega) L2.out
      have HL := Lib.hid hl; clear hl
      subst hk0
      go_wp2
      refine bodyPost_ret (v := .tuple #[.agg #[.int .i64 0, .int .i64 0, .int .i64 0], .bool false]) (by simp [results, Tryz.results59, go_sem, hc0, hc1, hc2]) rfl ⟨_, _, _, false, rfl, by rw [HL.out]; rfl, by rw [HL.out]; rfl, ?_⟩
      exact ((hW.setCell (by simp) _).setCell (by simp) _).setCell (by simp) _
    · obtain ⟨m, rfl⟩ : ∃ m, k = m + 1 := ⟨k - 1, by omega⟩
      have hc := HT.out.below HB.out hW m (by omega)
      have hlt := H1.out m (by omega)
      have hfd : r ≤ (T.getD m (0, 0, 0)).2.1 → look T r = some (T.getD m (0, 0, 0)).2.2 := fun h => look_found (r := r) HR.out (by omega) (by omega) h
      have hms : (T.getD m (0, 0, 0)).2.1 < r → look T r = none := fun h => look_missed (k := m + 1) (fun i hi => by
        have h1 := HR.out.2.1
        by_cases e : i = m
        · subst e; exact h
        · have h2 := h1 i m (by omega) (by omega); omega) L2.out
      have HF := Lib.hid hfd; have HM := Lib.hid hms; clear hfd hms
      generalize T.getD m (0, 0, 0) = p at hc hlt HF HM
      obtain ⟨hd1, hd2, hd3⟩ := hc
      have hkz : (m : Int) < (T.length : Int) := by omega
      have hkz2 : (m : Int) ≤ 1000 := by omega
      have hm1 : ((m + 1 : Nat) : Int) - 1 = (m : Int) := by omega
      by_cases hh : p.2.1 < r
      · go_wp2
        refine bodyPost_ret (v := .tuple #[.agg #[.int .i64 0, .int .i64 0, .int .i64 0], .bool false]) (by simp [results, Tryz.results59, go_sem, hc0, hc1, hc2]) rfl ⟨_, _, _, false, rfl, by rw [HM.out hh]; rfl, by rw [HM.out hh]; rfl, ?_⟩
        exact ((hW.setCell (by simp) _).setCell (by simp) _).setCell (by simp) _
      · go_wp2
        refine bodyPost_ret (v := .tuple #[.agg #[.int .i64 p.1, .int .i64 p.2.1, .int .i64 p.2.2], .bool true]) (by simp [results, Tryz.results59, go_sem, hc0, hc1, hc2]) rfl ⟨_, _, _, true, rfl, by rw [HF.out (by omega)]; rfl, by rw [HF.out (by omega)]; rfl, ?_⟩
        exact ((hW.setCell (by simp) _).setCell (by simp) _).setCell (by simp) _

end Go.Proofs.Pt
end

/- ==== the text W2 ==== -/
section
/- The tables of ranges and of pairs, as the program lays them in memory: each by one run in the kernel. -/
namespace Go.Proofs.Pt
open Go Go.RowKit

def cells3 (T : List (Int × Int × Int)) : Array Value := (T.flatMap fun x => [Value.int .i64 x.1, Value.int .i64 x.2.1, Value.int .i64 x.2.2]).toArray
theorem classes_run (w : World) : Calls Tryz.prog 72 #[] w fun e w' => e = .returned (.slice (some ⟨w.heap.size, 0, none⟩) clsT.length clsT.length) ∧ w' = w.alloc (.cells (cells3 clsT) 66) :=
  calls_told 0 (w' := w.alloc (.cells (cells3 clsT) 66)) Tryz.func72 (fun _ _ => by simp [results, Tryz.results72, go_sem]) (by kernel_rfl) ⟨rfl, rfl⟩
end Go.Proofs.Pt
end

/- ==== the text W3 ==== -/
section
/- The two halves of the table of pairs, as the program lays them in memory: each by one run in the kernel. -/
namespace Go.Proofs.Pt
open Go Go.RowKit

theorem low_run (w : World) : Calls Tryz.prog 52 #[] w fun e w' => e = .returned (.slice (some ⟨w.heap.size, 0, none⟩) lowT.length lowT.length) ∧ w' = w.alloc (.cells (cells3 lowT) 58) :=
  calls_told 0 (w' := w.alloc (.cells (cells3 lowT) 58)) Tryz.func52 (fun _ _ => by simp [results, Tryz.results52, go_sem]) (by kernel_rfl) ⟨rfl, rfl⟩
theorem high_run (w : World) : Calls Tryz.prog 53 #[] w fun e w' => e = .returned (.slice (some ⟨w.heap.size, 0, none⟩) highT.length highT.length) ∧ w' = w.alloc (.cells (cells3 highT) 58) :=
  calls_told 0 (w' := w.alloc (.cells (cells3 highT) 58)) Tryz.func53 (fun _ _ => by simp [results, Tryz.results53, go_sem]) (by kernel_rfl) ⟨rfl, rfl⟩
end Go.Proofs.Pt
end

/- ==== the text W4 ==== -/
section
/- The walks of package prop: the class of a mark, what is dropped, the kind for clusters. -/
namespace Go.Proofs.Pt
open Go Go.RowKit

theorem rising_of {T : List (Int × Int × Int)} (h : ((List.range T.length).all fun j => (List.range j).all fun i => decide ((T.getD i (0, 0, 0)).2.1 < (T.getD j (0, 0, 0)).1)) = true) (h2 : ((List.range T.length).all fun j => decide ((T.getD j (0, 0, 0)).1 ≤ (T.getD j (0, 0, 0)).2.1)) = true) : Rising T := by
  have a : ∀ i j, i < j → j < T.length → (T.getD i (0, 0, 0)).2.1 < (T.getD j (0, 0, 0)).1 := fun i j hij hj => by
    simpa using all_mem (all_mem h (List.mem_range.2 hj)) (List.mem_range.2 hij)
  have b : ∀ i, i < T.length → (T.getD i (0, 0, 0)).1 ≤ (T.getD i (0, 0, 0)).2.1 := fun i hi => by simpa using all_mem h2 (List.mem_range.2 hi)
  refine ⟨fun i j hij hj => ?_, a, b⟩
  by_cases e : i = j
  · rw [e]; exact Int.le_refl _
  · have := a i j (by omega) hj; have := b i (by omega); omega
theorem clsT_rising : Rising clsT := rising_of (by decide +kernel) (by decide +kernel)
theorem cells3_cons (x : Int × Int × Int) (T : List (Int × Int × Int)) : cells3 (x :: T) = #[Value.int .i64 x.1, Value.int .i64 x.2.1, Value.int .i64 x.2.2] ++ cells3 T := by simp [cells3]
theorem cells3_size (T : List (Int × Int × Int)) : (cells3 T).size = T.length * 3 := by
  induction T with
  | nil => rfl
  | cons x T ih => rw [cells3_cons]; simp [ih]; omega
theorem cells3_get : ∀ (T : List (Int × Int × Int)) (i : Nat), i < T.length →
    (cells3 T)[i * 3]? = some (.int .i64 (T.getD i (0, 0, 0)).1) ∧ (cells3 T)[i * 3 + 1]? = some (.int .i64 (T.getD i (0, 0, 0)).2.1) ∧ (cells3 T)[i * 3 + 2]? = some (.int .i64 (T.getD i (0, 0, 0)).2.2)
  | [], i, h => by simp at h
  | x :: T, 0, _ => by rw [cells3_cons]; simp [Array.getElem?_append]
  | x :: T, i + 1, h => by
    have := cells3_get T i (by simpa using h)
    rw [cells3_cons]
    simp only [Array.getElem?_append, List.size_toArray, List.length_cons, List.length_nil]
    rw [if_neg (by omega), if_neg (by omega), if_neg (by omega)]
    simp only [List.getD_cons_succ]
    rw [show (i + 1) * 3 - (0 + 1 + 1 + 1) = i * 3 by omega, show (i + 1) * 3 + 1 - (0 + 1 + 1 + 1) = i * 3 + 1 by omega, show (i + 1) * 3 + 2 - (0 + 1 + 1 + 1) = i * 3 + 2 by omega]
    exact this
theorem span_new (w : World) (T : List (Int × Int × Int)) (t : TypeId) : SpanAt (w.alloc (.cells (cells3 T) t)) w.heap.size T := by
  intro i hi
  obtain ⟨h1, h2, h3⟩ := cells3_get T i hi
  exact ⟨(World.cell?_alloc_new _ _ _ _).trans h1, (World.cell?_alloc_new _ _ _ _).trans h2, (World.cell?_alloc_new _ _ _ _).trans h3⟩
set_option maxHeartbeats 400000 in
theorem ccc_any (r : Int) (w : World) : Calls Tryz.prog 38 #[.int .i64 r] w fun e w' => e = .returned (.int .i64 (ccc r)) ∧ Below w.heap.size w w' := by
  go_enter Tryz.func38, Tryz.ntmps38
  go_wp2_with fail
  refine (classes_run _).mono ?_
  rintro e w' ⟨rfl, rfl⟩
  go_wp2_with fail
  refine (in_any _ _ clsT r _ (span_new _ _ _) (by simp) (by decide) clsT_rising).mono ?_
  rintro e w' ⟨x, y, v, ok, rfl, hv, _, hb⟩
  go_wp2
  go_ret
  exact ⟨rfl, (((Below.refl _ _).alloc (Nat.le_refl _) _).trans (hb.mono (by simp))).alloc (by have := hb.size; simp at this; omega) _⟩
set_option maxHeartbeats 400000 in
theorem mark_any (r : Int) (w : World) : Calls Tryz.prog 19 #[.int .i64 r] w fun e w' => e = .returned (.bool (decide (0 < ccc r))) ∧ Below w.heap.size w w' := by
  go_enter Tryz.func19, Tryz.ntmps19
  go_wp2_with (go_at_call 38; refine (ccc_any _ _).mono ?_; rintro e w' ⟨rfl, hb⟩)
  go_ret
  exact ⟨by simp, hb⟩
end Go.Proofs.Pt
end

/- ==== the text W5 ==== -/
section
/- The walks of package pair: which of two pairs goes ahead, the search in a half of the table, what two values are together. -/
namespace Go.Proofs.Pt
open Go Go.RowKit

set_option maxHeartbeats 400000 in
theorem or_two (x y : Int) (b c : Nat) (w : World) (h0 : w.cell? ⟨b, 0, none⟩ = some (.int .i64 x)) (h1 : w.cell? ⟨b, 1, none⟩ = some (.int .i64 y)) :
    Calls Tryz.prog 129 #[.slice (some ⟨b, 0, none⟩) 2 c] w fun e w' => e = .returned (.int .i64 (orI x y)) ∧ w' = w := by
  by_cases hx : x = 0
  · subst hx
    have hf : orI 0 y = y := if_pos rfl
    have HF := Lib.hid hf; clear hf
    by_cases hy : y = 0
    · subst hy
      go_enter Tryz.func129, Tryz.ntmps129
      go_wp2
      refine wp_loop_rounds 3 ?_
      rw [rounds_succ]
      go_wp2
      rw [rounds_succ]
      go_wp2
      rw [rounds_succ]
      go_wp2
      go_ret
      exact ⟨by rw [HF.out]; rfl, rfl⟩
    · have hy1 : (y != 0) = true := by simp [hy]
      clear hy
      go_enter Tryz.func129, Tryz.ntmps129
      go_wp2
      refine wp_loop_rounds 3 ?_
      rw [rounds_succ]
      go_wp2
      rw [rounds_succ]
      go_wp2
      go_ret
      exact ⟨by rw [HF.out]; rfl, rfl⟩
  · have hx1 : (x != 0) = true := by simp [hx]
    have hf : orI x y = x := if_neg hx
    have HF := Lib.hid hf; clear hx hf
    go_enter Tryz.func129, Tryz.ntmps129
    go_wp2
    refine wp_loop_rounds 3 ?_
    simp only [rounds_succ]
    go_wp2
    go_ret
    exact ⟨by rw [HF.out]; rfl, rfl⟩
set_option maxHeartbeats 400000 in
set_option maxRecDepth 100000 in
theorem order_any (a b c d : Int) (w : World) : Calls Tryz.prog 103 #[.agg #[.int .i64 a, .int .i64 b], .agg #[.int .i64 c, .int .i64 d]] w fun e w' => e = .returned (.int .i64 (lexI a b c d)) ∧ Below w.heap.size w w' := by
  have hlex : lexI a b c d = orI (cmpI a c) (cmpI b d) := rfl
  have HL := Lib.hid hlex; clear hlex
  have c1 : ((w.alloc (Obj.cells #[Value.int .i64 a, Value.int .i64 b] 52)).alloc (Obj.cells #[Value.int .i64 c, Value.int .i64 d] 52)).cell? ⟨w.heap.size, 0, none⟩ = some (.int .i64 a) := by simp [go_sem]
  have c2 : ((w.alloc (Obj.cells #[Value.int .i64 a, Value.int .i64 b] 52)).alloc (Obj.cells #[Value.int .i64 c, Value.int .i64 d] 52)).cell? ⟨w.heap.size, 1, none⟩ = some (.int .i64 b) := by simp [go_sem]
  have c3 : ((w.alloc (Obj.cells #[Value.int .i64 a, Value.int .i64 b] 52)).alloc (Obj.cells #[Value.int .i64 c, Value.int .i64 d] 52)).cell? ⟨w.heap.size + 1, 0, none⟩ = some (.int .i64 c) := by simp [go_sem]
  have c4 : ((w.alloc (Obj.cells #[Value.int .i64 a, Value.int .i64 b] 52)).alloc (Obj.cells #[Value.int .i64 c, Value.int .i64 d] 52)).cell? ⟨w.heap.size + 1, 1, none⟩ = some (.int .i64 d) := by simp [go_sem]
  have hb : Below w.heap.size w ((w.alloc (Obj.cells #[Value.int .i64 a, Value.int .i64 b] 52)).alloc (Obj.cells #[Value.int .i64 c, Value.int .i64 d] 52)) := ((Below.refl _ _).alloc (Nat.le_refl _) _).alloc (by simp) _
  have C1 := Lib.hid c1; have C2 := Lib.hid c2; have C3 := Lib.hid c3; have C4 := Lib.hid c4; clear c1 c2 c3 c4
  go_enter Tryz.func103, Tryz.ntmps103
  go_wp2_with fail
  generalize ((w.alloc (Obj.cells #[Value.int .i64 a, Value.int .i64 b] 52)).alloc (Obj.cells #[Value.int .i64 c, Value.int .i64 d] 52)) = w1 at C1 C2 C3 C4 hb ⊢
  refine wp_region_still_tail 10 (by kernel_rfl) (by kernel_rfl) ?_
  change wpStill _ _ w1.drew (fun a' => wpList _ _ _ _ a' w1.drew) _ _
  have c1 : w1.drew.cell? ⟨w.heap.size, 0, none⟩ = some (.int .i64 a) := C1.out
  have c2 : w1.drew.cell? ⟨w.heap.size, 1, none⟩ = some (.int .i64 b) := C2.out
  have c3 : w1.drew.cell? ⟨w.heap.size + 1, 0, none⟩ = some (.int .i64 c) := C3.out
  have c4 : w1.drew.cell? ⟨w.heap.size + 1, 1, none⟩ = some (.int .i64 d) := C4.out
  have hb2 : Below w.heap.size w w1.drew := below_drewN hb 1
  have hz : w.heap.size ≤ w1.drew.heap.size := hb2.size
  clear C1 C2 C3 C4 hb
  generalize w1.drew = w2 at c1 c2 c3 c4 hb2 hz ⊢
  simp only [List.take_succ_cons, List.take_zero, List.drop_succ_cons, List.drop_zero]
  iterate 4 still_step
  still_call (compare_any _ _ _)
  iterate 4 still_step
  still_call (compare_any _ _ _)
  refine wpStill_nil ?_
  clear c1 c2 c3 c4
  go_wp2_with (go_at_call 129; refine (or_two (cmpI a c) (cmpI b d) _ _ _ (by simp [go_sem]) (by simp [go_sem])).mono ?_; rintro e w' ⟨rfl, rfl⟩)
  go_ret
  exact ⟨rfl, hb2.alloc hz _⟩
end Go.Proofs.Pt
end

/- ==== the text W6 ==== -/
section
/- The walks of package pair: the search in a half of the table, what two values are together. -/
namespace Go.Proofs.Pt
open Go Go.RowKit

set_option maxHeartbeats 400000 in
theorem asks2_any (x y r a b : Int) (w : World) : Calls Tryz.prog 105 #[.agg #[.int .i64 x, .int .i64 y, .int .i64 r], .agg #[.int .i64 a, .int .i64 b]] w fun e w' => e = .returned (.int .i64 (lexI x y a b)) ∧ Below w.heap.size w w' := by
  go_enter Tryz.func105, Tryz.ntmps105
  go_wp2_with fail
  refine (order_any _ _ _ _ _).mono ?_
  rintro e w' ⟨rfl, hb⟩
  have hb2 : Below w.heap.size ((w.alloc (Obj.cells #[Value.int .i64 x, Value.int .i64 y, Value.int .i64 r] 58)).alloc (Obj.cells #[Value.int .i64 a, Value.int .i64 b] 52)) w' := hb.mono (by simp; omega)
  go_wp2
  go_ret
  exact ⟨rfl, (((Below.refl _ _).alloc (Nat.le_refl _) _).alloc (by simp) _).trans hb2⟩
set_option maxHeartbeats 1000000 in
set_option maxRecDepth 100000 in
theorem search2_any (tb c : Nat) (T : List (Int × Int × Int)) (a b : Int) (w : World) (hT : SpanAt w tb T) (hb : tb < w.heap.size) (hn : T.length ≤ 1000)
    (hs : ∀ i j, i ≤ j → j < T.length → keyI T a b j < 0 → keyI T a b i < 0) :
    Calls Tryz.prog 104 #[.slice (some ⟨tb, 0, none⟩) T.length c, .agg #[.int .i64 a, .int .i64 b], .func (.func 105) #[] #[]] w fun e w' =>
      ∃ k : Nat, e = .returned (.tuple #[.int .i64 k, .bool (decide (k < T.length ∧ keyI T a b k = 0))]) ∧ k ≤ T.length ∧ (∀ i, i < k → keyI T a b i < 0) ∧ (∀ i, k ≤ i → i < T.length → 0 ≤ keyI T a b i) ∧ Below w.heap.size w w' := by
  have hT1 : SpanAt (w.alloc (Obj.cells #[Value.int .i64 a, Value.int .i64 b] 52)) tb T := hT.below hb ((Below.refl _ _).alloc (Nat.le_refl _) _)
  have ha1 : (w.alloc (Obj.cells #[Value.int .i64 a, Value.int .i64 b] 52)).cell? ⟨w.heap.size, 0, none⟩ = some (.int .i64 a) := by simp
  have ha2 : (w.alloc (Obj.cells #[Value.int .i64 a, Value.int .i64 b] 52)).cell? ⟨w.heap.size, 1, none⟩ = some (.int .i64 b) := by simp
  have hb1 : Below w.heap.size w (w.alloc (Obj.cells #[Value.int .i64 a, Value.int .i64 b] 52)) := (Below.refl _ _).alloc (Nat.le_refl _) _
  have hz1 : w.heap.size < (w.alloc (Obj.cells #[Value.int .i64 a, Value.int .i64 b] 52)).heap.size := by simp
  have HS := Lib.hid hs; clear hs
  have HT := Lib.hid hT1; clear hT1 hT
  have HA1 := Lib.hid ha1; have HA2 := Lib.hid ha2; clear ha1 ha2
  have HB1 := Lib.hid hb1; have HZ1 := Lib.hid hz1; clear hb1 hz1
  have HB := Lib.hid hb; clear hb
  go_enter Tryz.func104, Tryz.ntmps104
  go_wp2
  generalize w.alloc (Obj.cells #[Value.int .i64 a, Value.int .i64 b] 52) = w1 at HT HA1 HA2 HB1 HZ1 ⊢
  go_loopw [9, 10, 11] (fun i j _ wr => ∃ x y : Nat, i = .int .i64 x ∧ j = .int .i64 y ∧ x ≤ y ∧ y ≤ T.length ∧ Hid (∀ i, i < x → keyI T a b i < 0) ∧ Hid (∀ i, y ≤ i → i < T.length → 0 ≤ keyI T a b i) ∧ Hid (Below w1.heap.size w1 wr)) (fun i j _ _ => (intOf j).toNat - (intOf i).toNat)
  case atStart => exact ⟨0, T.length, rfl, rfl, by omega, by omega, fun i hi => by omega, fun i h1 h2 => by omega, Below.refl _ _⟩
  case round =>
    obtain ⟨x, y, rfl, rfl, hxy, hyn, H1, H2, HW⟩ := hrel
    have hA1 : wr.cell? ⟨w.heap.size, 0, none⟩ = some (.int .i64 a) := (HW.out.cell (p := ⟨w.heap.size, 0, none⟩) HZ1.out).trans HA1.out
    have hA2 : wr.cell? ⟨w.heap.size, 1, none⟩ = some (.int .i64 b) := (HW.out.cell (p := ⟨w.heap.size, 1, none⟩) HZ1.out).trans HA2.out
    by_cases hlt : x < y
    · obtain ⟨m, hm⟩ : ∃ m, m = (x + y) / 2 := ⟨_, rfl⟩
      have hmz : ((x : Int) + (y : Int)) / 2 = (m : Int) := by omega
      have hm0 : (m : Int) < (T.length : Int) := by omega
      have hc := (HT.out.below (by have := HB.out; have := HZ1.out; omega) HW.out) m (by omega)
      have hs1 : keyI T a b m < 0 → ∀ i, i < m + 1 → keyI T a b i < 0 := fun h i hi => HS.out i m (by omega) (by omega) h
      have hs2 : ¬ keyI T a b m < 0 → ∀ i, m ≤ i → i < T.length → 0 ≤ keyI T a b i := fun h i hi hl => by
        have := HS.out m i hi hl; omega
      have hk : keyI T a b m = lexI (T.getD m (0, 0, 0)).1 (T.getD m (0, 0, 0)).2.1 a b := rfl
      rw [hk] at hs1 hs2
      generalize T.getD m (0, 0, 0) = p at hc hs1 hs2
      have S1 := Lib.hid hs1; have S2 := Lib.hid hs2; clear hs1 hs2 hk
      obtain ⟨hc1, hc2, hc3⟩ := hc
      have HM := Lib.hid hm; clear hm
      have hxz : (x : Int) < (y : Int) := by omega
      have hyz : (y : Int) ≤ 1000 := by omega
      by_cases hp : lexI p.1 p.2.1 a b < 0
      · go_wp2_with fail
        refine wp_region_still_tail 6 (by kernel_rfl) (by kernel_rfl) ?_
        change wpStill _ _ wr.drew (fun a' => wpList _ _ _ _ a' wr.drew) _ _
        have hd1 : wr.drew.cell? ⟨tb, m * 3, none⟩ = _ := hc1
        have hd2 : wr.drew.cell? ⟨tb, m * 3 + 1, none⟩ = _ := hc2
        have hd3 : wr.drew.cell? ⟨tb, m * 3 + 2, none⟩ = _ := hc3
        have hB1 : wr.drew.cell? ⟨w.heap.size, 0, none⟩ = some (.int .i64 a) := hA1
        have hB2 : wr.drew.cell? ⟨w.heap.size, 1, none⟩ = some (.int .i64 b) := hA2
        have HW2 : Hid (Below w1.heap.size w1 wr.drew) := below_drewN HW.out 1
        clear hc1 hc2 hc3 hA1 hA2 HW
        generalize wr.drew = w3 at hd1 hd2 hd3 hB1 hB2 HW2 ⊢
        simp only [List.take_succ_cons, List.take_zero, List.drop_succ_cons, List.drop_zero]
        iterate 6 still_step
        refine wpStill_nil ?_
        go_wp2_with (go_at_call 105; refine (asks2_any _ _ _ _ _ _).mono ?_; rintro e w' ⟨rfl, hb'⟩)
        go_roundw
        case measure => have := HM.out; simp [intOf]; omega
        case rel => exact ⟨m + 1, y, by go_num, rfl, by have := HM.out; omega, hyn, S1.out hp, H2, HW2.out.trans (hb'.mono HW2.out.size)⟩
      · go_wp2_with fail
        refine wp_region_still_tail 6 (by kernel_rfl) (by kernel_rfl) ?_
        change wpStill _ _ wr.drew (fun a' => wpList _ _ _ _ a' wr.drew) _ _
        have hd1 : wr.drew.cell? ⟨tb, m * 3, none⟩ = _ := hc1
        have hd2 : wr.drew.cell? ⟨tb, m * 3 + 1, none⟩ = _ := hc2
        have hd3 : wr.drew.cell? ⟨tb, m * 3 + 2, none⟩ = _ := hc3
        have hB1 : wr.drew.cell? ⟨w.heap.size, 0, none⟩ = some (.int .i64 a) := hA1
        have hB2 : wr.drew.cell? ⟨w.heap.size, 1, none⟩ = some (.int .i64 b) := hA2
        have HW2 : Hid (Below w1.heap.size w1 wr.drew) := below_drewN HW.out 1
        clear hc1 hc2 hc3 hA1 hA2 HW
        generalize wr.drew = w3 at hd1 hd2 hd3 hB1 hB2 HW2 ⊢
        simp only [List.take_succ_cons, List.take_zero, List.drop_succ_cons, List.drop_zero]
        iterate 6 still_step
        refine wpStill_nil ?_
        go_wp2_with (go_at_call 105; refine (asks2_any _ _ _ _ _ _).mono ?_; rintro e w' ⟨rfl, hb'⟩)
        go_roundw
        case measure => have := HM.out; simp [intOf]; omega
        case rel => exact ⟨x, m, rfl, by go_num, by have := HM.out; omega, by have := HM.out; omega, H1, S2.out hp, HW2.out.trans (hb'.mono HW2.out.size)⟩
    · obtain rfl : y = x := by omega
      by_cases hn' : y < T.length
      · have hc := (HT.out.below (by have := HB.out; have := HZ1.out; omega) HW.out) y hn'
        have hk : keyI T a b y = lexI (T.getD y (0, 0, 0)).1 (T.getD y (0, 0, 0)).2.1 a b := rfl
        generalize T.getD y (0, 0, 0) = p at hc hk
        have HK := Lib.hid hk; clear hk
        obtain ⟨hc1, hc2, hc3⟩ := hc
        have hnz : (y : Int) < (T.length : Int) := by omega
        go_wp2_with fail
        have ht1 : tb < wr.heap.size := Nat.lt_of_lt_of_le HB.out (Nat.le_trans HB1.out.size HW.out.size)
        have ht2 : w.heap.size < wr.heap.size := Nat.lt_of_lt_of_le HZ1.out HW.out.size
        go_region_held3 (fun w' => w'.cell? ⟨tb, y * 3, none⟩ = some (.int .i64 p.1) ∧ w'.cell? ⟨tb, y * 3 + 1, none⟩ = some (.int .i64 p.2.1) ∧ w'.cell? ⟨tb, y * 3 + 2, none⟩ = some (.int .i64 p.2.2) ∧ w'.cell? ⟨w.heap.size, 0, none⟩ = some (.int .i64 a) ∧ w'.cell? ⟨w.heap.size, 1, none⟩ = some (.int .i64 b))
          (first | (exact ⟨hc1, hc2, hc3, hA1, hA2⟩) | (exact ⟨(hb'.cell (p := ⟨tb, y * 3, none⟩) ht1).trans hc1, (hb'.cell (p := ⟨tb, y * 3 + 1, none⟩) ht1).trans hc2, (hb'.cell (p := ⟨tb, y * 3 + 2, none⟩) ht1).trans hc3, (hb'.cell (p := ⟨w.heap.size, 0, none⟩) ht2).trans hA1, (hb'.cell (p := ⟨w.heap.size, 1, none⟩) ht2).trans hA2⟩))
          (first | (go_at_call 105; refine (asks2_any _ _ _ _ _ _).mono ?_; rintro e w' ⟨rfl, hb'⟩))
        go_wp2
        go_ret2
        refine ⟨y, ?_, hyn, H1.out, H2.out, (below_drewN (HB1.out.trans (HW.out.mono HB1.out.size)) 1).trans (hb'.mono (Nat.le_trans HB1.out.size HW.out.size))⟩
        have e : (lexI p.1 p.2.1 a b == 0) = decide (y < T.length ∧ keyI T a b y = 0) := by
          rw [HK.out]
          by_cases h : lexI p.1 p.2.1 a b = 0
          · simp [h, hn']
          · simp [h]
        rw [← e]; rfl
      · have hnz : decide ((y : Int) < (T.length : Int)) = false := decide_eq_false (by omega)
        go_wp2_with fail
        go_quiet (fail)
        go_wp2
        go_ret2
        refine ⟨y, ?_, hyn, H1.out, H2.out, below_drewN (HB1.out.trans (HW.out.mono HB1.out.size)) _⟩
        simp [hn']
end Go.Proofs.Pt
end
