/- The settings of the interpreter for this seat. -/
import Derived.Test.YtiipgpkgcdhbfaaGreatDoorProg
import Derived.Test.YtiipgpkgcdhbfaaGreatDoorEP1
set_option maxRecDepth 100000
set_option linter.unusedVariables false
set_option linter.unusedSimpArgs false
set_option linter.unusedSectionVars false
namespace Go.Ab
abbrev qp4:ByteArray:=⟨⟨[0,1,2,2,3,3,3,3,4,4,4,4,4,4,4,4,5,5,5,5,5,5,5,5,5,5,5,5,5,5,5,5,6,6,6,6,6,6,6,6,6,6,6,6,6,6,6,6,6,6,6,6,6,6,6,6,6,6,6,6,6,6,6,6,7,7,7,7,7,7,7,7,7,7,7,7,7,7,7,7,7,7,7,7,7,7,7,7,7,7,7,7,7,7,7,7,7,7,7,7,7,7,7,7,7,7,7,7,7,7,7,7,7,7,7,7,7,7,7,7,7,7,7,7,7,7,7,7,8,8,8,8,8,8,8,8,8,8,8,8,8,8,8,8,8,8,8,8,8,8,8,8,8,8,8,8,8,8,8,8,8,8,8,8,8,8,8,8,8,8,8,8,8,8,8,8,8,8,8,8,8,8,8,8,8,8,8,8,8,8,8,8,8,8,8,8,8,8,8,8,8,8,8,8,8,8,8,8,8,8,8,8,8,8,8,8,8,8,8,8,8,8,8,8,8,8,8,8,8,8,8,8,8,8,8,8,8,8,8,8,8,8,8,8,8,8,8,8,8,8,8,8,8,8,8,8]⟩⟩
open Go.Proofs.Tryz
def aq:Nat->Nat->List Bool
 | 0,_=>[]
 | n+1,x=>Nat.beq (x % 2) 1::aq n (x / 2)
def mM3 (n a b c:Nat):Masks:=⟨aq n a,aq n b,aq n c⟩
def qmL:List (Nat×Nat×Masks):=[(3,17,⟨(aq 122 1813388729421943762112512),(aq 122 32768),(aq 122 64)⟩),
 (4,19,⟨(aq 186 72692156019487586799426948609895424),(aq 186 814080),(aq 186 256)⟩),
 (4,28,⟨(aq 186 137015778499772148581595453067151533092764647424),(aq 186 0),(aq 186 256)⟩),
 (5,9,⟨(aq 196 2115620184325601055735810),(aq 196 0),(aq 196 16)⟩),
 (5,25,⟨(aq 196 670466799128826375531776824380375888017523967011062274),(aq 196 2115620184325601055736322),(aq 196 16)⟩),
 (7,15,⟨(aq 105 2066035336255470798344),(aq 105 1015808),(aq 105 256)⟩),
 (9,13,⟨(aq 152 252201579132804104),(aq 152 49160),(aq 152 256)⟩),
 (10,4,⟨(aq 29 8),(aq 29 8),(aq 29 4)⟩),
 (11,4,⟨(aq 21 1792),(aq 21 0),(aq 21 4)⟩),
 (12,3,⟨(aq 22 1826),(aq 22 32),(aq 22 16)⟩),
 (14,3,⟨(aq 32 99),(aq 32 32),(aq 32 16)⟩),
 (16,4,⟨(aq 45 28770),(aq 45 32),(aq 45 16)⟩),
 (16,8,⟨(aq 45 30562),(aq 45 29282),(aq 45 16)⟩),
 (17,11,⟨(aq 123 31525197391598860),(aq 123 4352),(aq 123 192)⟩),
 (17,17,⟨(aq 123 528905077606597655631116),(aq 123 31525197391598860),(aq 123 192)⟩),
 (17,28,⟨(aq 123 1135814937804493543741046076215296),(aq 123 4194304),(aq 123 192)⟩),
 (18,4,⟨(aq 50 229377),(aq 50 0),(aq 50 16)⟩),
 (18,8,⟨(aq 50 29589729),(aq 50 229601),(aq 50 16)⟩),
 (19,3,⟨(aq 49 114823),(aq 49 128),(aq 49 64)⟩),
 (19,7,⟨(aq 49 29476487),(aq 49 116359),(aq 49 64)⟩),
 (24,7,⟨(aq 72 481036337713),(aq 72 561),(aq 72 448)⟩),
 (25,5,⟨(aq 37 114722),(aq 37 0),(aq 37 16)⟩),
 (26,3,⟨(aq 68 918279),(aq 68 775),(aq 68 192)⟩),
 (26,8,⟨(aq 68 30064771847),(aq 68 768),(aq 68 192)⟩),
 (26,12,⟨(aq 68 15423227585287),(aq 68 30064788231),(aq 68 192)⟩),
 (27,4,⟨(aq 26 12291),(aq 26 0),(aq 26 16)⟩),
 (36,6,⟨(aq 85 469762055),(aq 85 7),(aq 85 192)⟩),
 (36,11,⟨(aq 85 7),(aq 85 3),(aq 85 192)⟩),
 (43,8,⟨(aq 77 29360321),(aq 77 128),(aq 77 48)⟩),
 (43,13,⟨(aq 77 504403158294856897),(aq 77 29361345),(aq 77 48)⟩),
 (45,4,⟨(aq 29 8),(aq 29 8),(aq 29 4)⟩),
 (47,3,⟨(aq 32 99),(aq 32 32),(aq 32 16)⟩),
 (48,4,⟨(aq 45 28770),(aq 45 32),(aq 45 16)⟩),
 (48,8,⟨(aq 45 30562),(aq 45 29282),(aq 45 16)⟩),
 (49,6,⟨(aq 44 58720896),(aq 44 640),(aq 44 112)⟩),
 (50,9,⟨(aq 65 246290604626184),(aq 65 4352),(aq 65 768)⟩),
 (51,3,⟨(aq 119 28716),(aq 119 44),(aq 119 16)⟩),
 (51,10,⟨(aq 119 108086391056891916),(aq 119 12),(aq 119 16)⟩),
 (51,16,⟨(aq 119 56668397794435742564364),(aq 119 0),(aq 119 16)⟩),
 (51,21,⟨(aq 119 237684544211190807216374415884),(aq 119 56668397794435742564364),(aq 119 16)⟩),
 (52,3,⟨(aq 33 49344),(aq 33 192),(aq 33 64)⟩),
 (53,4,⟨(aq 47 28678),(aq 47 6),(aq 47 28)⟩),
 (54,3,⟨(aq 18 25),(aq 18 8),(aq 18 4)⟩),
 (55,3,⟨(aq 48 114738),(aq 48 48),(aq 48 16)⟩),
 (55,7,⟨(aq 48 14795250),(aq 48 115186),(aq 48 16)⟩),
 (58,2,⟨(aq 45 9),(aq 45 0),(aq 45 4)⟩),
 (58,4,⟨(aq 45 1849),(aq 45 57),(aq 45 4)⟩),
 (59,3,⟨(aq 88 234881054),(aq 88 30),(aq 88 12)⟩),
 (59,8,⟨(aq 88 123145302310942),(aq 88 30),(aq 88 12)⟩),
 (60,3,⟨(aq 57 7177),(aq 57 8),(aq 57 4)⟩),
 (61,3,⟨(aq 67 7177),(aq 67 8),(aq 67 4)⟩),
 (62,6,⟨(aq 71 7183),(aq 71 1033),(aq 71 768)⟩),
 (63,4,⟨(aq 50 229377),(aq 50 0),(aq 50 16)⟩),
 (63,8,⟨(aq 50 29589729),(aq 50 229601),(aq 50 16)⟩),
 (70,3,⟨(aq 30 7219),(aq 30 51),(aq 30 16)⟩),
 (75,4,⟨(aq 73 99),(aq 73 32),(aq 73 16)⟩),
 (75,8,⟨(aq 73 483),(aq 73 227),(aq 73 16)⟩),
 (76,4,⟨(aq 44 227),(aq 44 32),(aq 44 16)⟩),
 (77,7,⟨(aq 45 35),(aq 45 0),(aq 45 16)⟩),
 (78,6,⟨(aq 44 451),(aq 44 64),(aq 44 48)⟩),
 (82,5,⟨(aq 37 114722),(aq 37 0),(aq 37 16)⟩),
 (83,3,⟨(aq 25 114696),(aq 25 8),(aq 25 4)⟩),
 (86,8,⟨(aq 87 27021597764255807),(aq 87 32813),(aq 87 4096)⟩),
 (87,3,⟨(aq 25 803),(aq 25 32),(aq 25 16)⟩),
 (89,4,⟨(aq 27 12291),(aq 27 0),(aq 27 16)⟩),
 (90,3,⟨(aq 18 456),(aq 18 8),(aq 18 4)⟩),
 (91,7,⟨(aq 128 3975),(aq 128 1927),(aq 128 64)⟩),
 (91,14,⟨(aq 128 4487),(aq 128 129),(aq 128 64)⟩),
 (91,18,⟨(aq 128 8873554201597605810476922437761),(aq 128 129),(aq 128 64)⟩),
 (99,2,⟨(aq 29 3591),(aq 29 4),(aq 29 64)⟩),
 (101,13,⟨(aq 106 56668397794435742638111),(aq 106 73751),(aq 106 1024)⟩),
 (103,10,⟨(aq 85 126100789566382111),(aq 85 8211),(aq 85 1024)⟩),
 (104,7,⟨(aq 49 14680325),(aq 49 256),(aq 49 192)⟩),
 (107,2,⟨(aq 92 3587),(aq 92 2),(aq 92 16)⟩),
 (107,10,⟨(aq 92 504403158265499235),(aq 92 3587),(aq 92 16)⟩),
 (108,3,⟨(aq 64 28683),(aq 64 9),(aq 64 4)⟩),
 (108,9,⟨(aq 64 120259113083),(aq 64 28795),(aq 64 4)⟩),
 (109,3,⟨(aq 23 3592),(aq 23 8),(aq 23 4)⟩),
 (110,7,⟨(aq 46 58721065),(aq 46 768),(aq 46 256)⟩),
 (111,8,⟨(aq 78 240518168820),(aq 78 244),(aq 78 16)⟩),
 (111,13,⟨(aq 78 492581209243892),(aq 78 144),(aq 78 16)⟩),
 (112,5,⟨(aq 72 481036337162),(aq 72 10),(aq 72 4)⟩),
 (115,3,⟨(aq 33 99),(aq 33 32),(aq 33 16)⟩),
 (119,5,⟨(aq 84 160),(aq 84 32),(aq 84 16)⟩),
 (119,13,⟨(aq 84 515),(aq 84 515),(aq 84 16)⟩),
 (119,15,⟨(aq 84 515),(aq 84 513),(aq 84 16)⟩),
 (119,16,⟨(aq 84 515),(aq 84 515),(aq 84 16)⟩),
 (119,18,⟨(aq 84 515),(aq 84 515),(aq 84 16)⟩),
 (121,4,⟨(aq 37 12294),(aq 37 6),(aq 37 28)⟩),
 (122,4,⟨(aq 53 24579),(aq 53 0),(aq 53 16)⟩),
 (122,9,⟨(aq 53 12884926499),(aq 53 24579),(aq 53 16)⟩),
 (124,3,⟨(aq 36 29360153),(aq 36 17),(aq 36 0)⟩),
 (125,2,⟨(aq 63 455),(aq 63 199),(aq 63 0)⟩),
 (125,7,⟨(aq 63 71),(aq 63 0),(aq 63 0)⟩),
 (125,9,⟨(aq 63 455),(aq 63 199),(aq 63 0)⟩),
 (127,4,⟨(aq 71 14680098),(aq 71 32),(aq 71 16)⟩),
 (127,8,⟨(aq 71 1893728738),(aq 71 14680418),(aq 71 16)⟩),
 (130,7,⟨(aq 60 117440610),(aq 60 96),(aq 60 16)⟩),
 (131,7,⟨(aq 49 35),(aq 49 0),(aq 49 16)⟩),
 (132,7,⟨(aq 59 29360322),(aq 59 64),(aq 59 48)⟩),
 (133,2,⟨(aq 22 9),(aq 22 9),(aq 22 4)⟩),
 (136,6,⟨(aq 27 24),(aq 27 8),(aq 27 4)⟩),
 (137,11,⟨(aq 98 1539),(aq 98 513),(aq 98 112)⟩),
 (137,14,⟨(aq 98 7683),(aq 98 3587),(aq 98 112)⟩),
 (141,6,⟨(aq 30 1835016),(aq 30 8),(aq 30 4)⟩),
 (142,4,⟨(aq 45 1610612748),(aq 45 0),(aq 45 16)⟩),
 (143,2,⟨(aq 17 225),(aq 17 0),(aq 17 4)⟩),
 (144,4,⟨(aq 26 12291),(aq 26 0),(aq 26 16)⟩),
 (145,2,⟨(aq 19 387),(aq 19 0),(aq 19 16)⟩),
 (158,4,⟨(aq 32 229382),(aq 32 0),(aq 32 64)⟩),
 (159,4,⟨(aq 26 12291),(aq 26 0),(aq 26 16)⟩),
 (160,4,⟨(aq 32 229382),(aq 32 0),(aq 32 64)⟩),
 (162,5,⟨(aq 62 31525197391593472),(aq 62 0),(aq 62 4)⟩),
 (164,2,⟨(aq 21 9),(aq 21 9),(aq 21 4)⟩),
 (165,1,⟨(aq 53 271),(aq 53 0),(aq 53 0)⟩),
 (165,4,⟨(aq 53 783),(aq 53 271),(aq 53 0)⟩),
 (166,3,⟨(aq 220 3091),(aq 220 1027),(aq 220 0)⟩),
 (166,9,⟨(aq 220 9217),(aq 220 0),(aq 220 0)⟩),
 (166,15,⟨(aq 220 49173),(aq 220 16389),(aq 220 0)⟩),
 (166,21,⟨(aq 220 147457),(aq 220 0),(aq 220 0)⟩),
 (166,33,⟨(aq 220 8126495),(aq 220 1835039),(aq 220 0)⟩),
 (170,4,⟨(aq 41 451),(aq 41 192),(aq 41 48)⟩),
 (172,4,⟨(aq 42 899),(aq 42 384),(aq 42 64)⟩),
 (178,2,⟨(aq 134 783),(aq 134 0),(aq 134 0)⟩),
 (180,2,⟨(aq 19 387),(aq 19 0),(aq 19 16)⟩),
 (183,2,⟨(aq 26 3),(aq 26 1),(aq 26 16)⟩),
 (184,3,⟨(aq 19 456),(aq 19 8),(aq 19 4)⟩),
 (185,2,⟨(aq 96 3587),(aq 96 2),(aq 96 16)⟩),
 (185,10,⟨(aq 96 8070450532247932515),(aq 96 3587),(aq 96 16)⟩),
 (186,2,⟨(aq 58 3093),(aq 58 1045),(aq 58 0)⟩),
 (187,14,⟨(aq 315 32256),(aq 315 13824),(aq 315 112)⟩),
 (187,18,⟨(aq 315 228864),(aq 315 97792),(aq 315 112)⟩),
 (187,24,⟨(aq 315 1096126227998177188652763624537212264741950291456),(aq 315 884224),(aq 315 112)⟩),
 (187,41,⟨(aq 315 165641912322973530898434140694648610858826615332089277323900581371805184),(aq 315 622080),(aq 315 112)⟩),
 (187,51,⟨(aq 315 11656013353354374425516771440941113439854441034312837127510874458433425711231284553216),(aq 315 33562624),(aq 315 112)⟩),
 (190,1,⟨(aq 49 71),(aq 49 0),(aq 49 0)⟩),
 (190,4,⟨(aq 49 199),(aq 49 71),(aq 49 0)⟩),
 (191,4,⟨(aq 56 961),(aq 56 449),(aq 56 0)⟩),
 (191,8,⟨(aq 56 1217),(aq 56 0),(aq 56 0)⟩),
 (192,5,⟨(aq 65 963),(aq 65 0),(aq 65 0)⟩),
 (194,2,⟨(aq 32 193),(aq 32 0),(aq 32 0)⟩),
 (195,3,⟨(aq 133 391),(aq 133 0),(aq 133 64)⟩),
 (195,5,⟨(aq 133 391),(aq 133 391),(aq 133 64)⟩),
 (195,14,⟨(aq 133 903),(aq 133 391),(aq 133 64)⟩),
 (195,20,⟨(aq 133 1415),(aq 133 391),(aq 133 64)⟩),
 (197,3,⟨(aq 84 1539),(aq 84 1539),(aq 84 256)⟩),
 (197,5,⟨(aq 84 1539),(aq 84 1539),(aq 84 256)⟩),
 (198,3,⟨(aq 168 3075),(aq 168 3075),(aq 168 768)⟩),
 (198,5,⟨(aq 168 3075),(aq 168 3075),(aq 168 768)⟩),
 (198,13,⟨(aq 168 3075),(aq 168 3075),(aq 168 768)⟩),
 (198,15,⟨(aq 168 3075),(aq 168 3075),(aq 168 768)⟩),
 (201,1,⟨(aq 38 1039),(aq 38 0),(aq 38 0)⟩),
 (202,4,⟨(aq 43 451),(aq 43 192),(aq 43 48)⟩),
 (204,3,⟨(aq 40 28706),(aq 40 32),(aq 40 16)⟩),
 (207,1,⟨(aq 76 269),(aq 76 0),(aq 76 0)⟩),
 (215,1,⟨(aq 167 19),(aq 167 19),(aq 167 0)⟩)]
def qnn:List (Nat×Nat×List Nat):=[(6,13,[0,1,2,3,4,5,6,8,7,9,10,11,12,13,14,15,16,17,18,19,20,21,22,23]),(9,19,[0,1,2,4,5,6,3,7,8,9]),(9,29,[0,1,2,4,5,6,7,3,8,9]),(59,12,[0,1,2,3,4,5,6,7,8,9,10,11,12,13,14,15,16]),(67,1,[0,1,3,4,2,5,6,7]),(97,1,[0,1,2,3,4,5,6,8,7,9,10,11])]
def qg3:List (Nat×Nat×List Nat):=[(3,19,[0,0,3,7,15,0,0,96,224,480,1023,2047,4095,4095,16383,32767,65535,4095,4095,397311,921599,1970175,4194303,8388607,16777215]),
 (3,21,[0,0,0,6,14,30,63,127]),
 (3,23,[0,0,3,7,15,31,63]),
 (4,30,[0,0,3,7,15,0,0,96,224,480,1023,2047,4095,4095,16383,32767,65535,4095,4095,397311,921599,1970175,4194303,8388607,16777215]),
 (6,13,[0,1,3,7,7,7,7,103,7,503,1023,2047,4095,8191,16383,32767,65535,131071,262143,524287,1048575,2097151,4194303,8388607]),
 (7,18,[0,0,0,6,15,31]),
 (8,2,[0,1,0,4,0,16,48,112,252,0,512,0,2048,6144,14336,32256,65535,131071]),
 (8,14,[0,0,2,6,15,0,32,96,255,0,512,1536,4095,8191]),
 (8,15,[0,1,0,0,8,0,56,120,0,504,1023,2047]),
 (9,19,[0,0,2,7,0,0,32,127,255,511]),
 (9,24,[0,0,0,6,15,0,0,64,224,511,1023]),
 (9,26,[0,1,0,7,15,31,63,127,255,511,1023]),
 (9,29,[0,0,2,7,0,16,48,112,255,511]),
 (17,13,[0,1,3,7,0,31,63,0,0,384,0,0,3199,8191]),
 (17,19,[0,0,0,4,14,30,0,126,255,0,1023]),
 (19,10,[0,0,0,6,15,31]),
 (22,1,[0,1,0,7,15,31]),
 (22,2,[0,1,0,4,15,0,32,0,128,511,0,1024,0,4096,16383,32767,65535,131071]),
 (22,3,[0,1,0,0,12,31,63]),
 (24,3,[0,0,3,7,15,31,31,95,223,479,991,2047,4095,8191]),
 (27,6,[0,0,3,7,0,0,48,112,255]),
 (34,3,[0,1,3,7,7,23,55,119,247,511,1023,2047,4095,8191,4095,20479,53247,118783,4095,511999,1036287,2097151,4194303,8388607,16777215,16777215,67108863,134217727]),
 (36,12,[0,1,3,7,0,31,63,127,0,0,512,1536,3584,0,15872,32256,65024,130816,261888,524287,1048575,2097151]),
 (39,3,[0,0,3,7,15,31,63,127,255,511,511,1535,3583,7679,15871,32767,65535,131071,262143,524287,1048575,2097151,4194303,4194303,12582911,29360127,62914559,4194303,264241151,532676607,1073741823,2147483647]),
 (43,11,[0,1,3,7,0,31,63,127,0,256,768,1792,0,7936,16128,32512,65535,0,262143]),
 (44,3,[0,1,3,7,0,31,63]),
 (46,3,[0,1,3,7,7,31,63,127]),
 (50,11,[0,1,0,4,0,0,0,64,252,508,1023,2047,4095]),
 (51,12,[0,1,0,7,15,0,32,0,224,480,1023,2047]),
 (51,18,[0,1,0,7,15,31,0,64,0,448,960,1984,4095]),
 (51,23,[0,1,0,7,15,0,63,127,0,256,0,1792,3840,0,16128,32512,65535]),
 (52,5,[0,1,0,4,15,31,63]),
 (52,6,[0,1,0,0,0,24,63,127]),
 (53,6,[0,1,0,7,15,0,32,0,0,256,0,1024,4064,8191,16383]),
 (53,9,[0,1,0,4,12,28,63,127,0,511,1023,2047,4095]),
 (56,4,[0,1,3,7,15,31,15,127,255,511,1023]),
 (59,1,[0,1,0,4,12,28,63,0,128,511,0,2047]),
 (59,10,[0,1,0,4,0,16,0,64,192,448,1008,0,2048,0,8192,24576,57344,129024,262140,524284,1048575,2097151,4194303]),
 (59,12,[0,1,0,4,0,16,48,112,252,0,512,0,2048,8191,0,16383,65535]),
 (60,6,[0,1,3,7,15,31,63,63,191,511,1023,63,4095,8191,16383,32767,32767,98303,262143,524287,1048575,32767,2129919,8388607,16777215,33554431,67108863]),
 (60,10,[0,0,3,7]),
 (61,6,[0,1,3,7,15,31,63,127,63,319,831,1855,4095,8191,16383,32767,65535,32767,163839,425983,950271,2097151,4194303,8388607,16777215,33554431,67108863,33554431,33554431,301989887,973078527,2046820351,4194303999,8589934591,17179869183,34359738367,68719476735]),
 (61,10,[0,0,3,7]),
 (67,1,[0,0,3,0,0,31,63,127]),
 (69,1,[0,1,0,4,15,0,32,0,128,480,0,1024,0,4096,16352,32767,65535]),
 (71,5,[0,1,0,4,15,0,32,0,128,511,0,1024,0,4096,16383,32767,65535,131071]),
 (71,7,[0,1,0,0,12,0,63,127]),
 (75,10,[0,0,3,7,15,0,0,96,224,480,1023,0,0,0,12288,30720,63488,129024,262143,0,1048575,2097151]),
 (77,9,[0,0,3,7,0,0,48,112,255]),
 (77,10,[0,0,3,7,0,0,48,112,255]),
 (87,5,[0,0,0,6,14,31,0,0,192,448,1023,2047]),
 (89,6,[0,0,3,7,0,0,48,112,255,511]),
 (91,16,[0,1,0,0,8,0,0,0,192,0,512,0,3584,8160,16380,32764,65535,131071,262143]),
 (91,23,[0,0,2,6,14,0,32,126,255,511,1023]),
 (97,1,[0,0,3,7,15,31,31,127,31,511,1023,2047]),
 (98,1,[0,0,0,4,15,31]),
 (101,7,[0,0,2,6,14,0,62,126,254,0,512,1536,3584,0,15872,32256,65024,131071,262143]),
 (105,1,[0,1,0,4,12,3,63]),
 (106,1,[0,1,0,4,12,3,63]),
 (107,7,[0,1,3,7,15,31,15,79,255,511,1023,2047,4095,8191,16383,32767,65535,131071,262143,65535,65535,1114111,3735551,7929855,16777215,33554431]),
 (107,12,[0,1,3,7,7,31,63,127,255,255,1023,2047,4095,8191,16383,32767,32767,131071,262143,524287,32767,1081343,4194303,8388607,16777215]),
 (110,9,[0,0,0,4,14,30,0,126,0,0,768,1792,4094,8191,16383]),
 (111,16,[0,0,0,4,0,28,60,126,255,511]),
 (117,1,[0,1,0,7,15,31]),
 (117,2,[0,1,0,4,15,0,32,0,128,480,0,1024,0,4096,16352,32767,65535,131071,131071,0,786431,2097151]),
 (119,6,[0,0,0,6,3,31]),
 (121,6,[0,1,0,7,15,0,0,96,255,511]),
 (122,6,[0,0,3,7,15,0,0,96,224,480,1023]),
 (122,11,[0,0,3,7,0,31,63,0,0,384,896,0,3968,8064,16383]),
 (131,9,[0,0,3,7,0,0,48,112,255,511]),
 (131,11,[0,0,3,7,0,0,48,112,255,511]),
 (134,1,[0,0,2,7,15]),
 (139,5,[0,1,3,7,15,0,32,96,224,511]),
 (139,7,[0,0,2,6,14,0,32,126,255,511,1023]),
 (139,8,[0,1,3,7,0,0,32,96,224,480,992,2047]),
 (142,6,[0,1,0,7,15,0,32,0,224,480,1023]),
 (144,6,[0,0,3,7,0,0,48,112,255]),
 (153,1,[0,1,0,7,15,31]),
 (153,6,[0,0,2,0,8,30,0,64,0,256,1022,2046,4095,8191]),
 (155,8,[0,1,3,7,15,0,32,96,224,511,1023,2047]),
 (159,6,[0,0,3,7,0,0,48,112,255]),
 (165,4,[0,0,3,7,15,15,15,111,239,15,15,1039,3599,7695,16383,32767,65535]),
 (165,6,[0,0,0,0,8,0,0,64,224,480,0,0,3072,7168,16355,32739,65535,131071]),
 (166,5,[0,0,0,6,14,0,0,96,224,511,1023]),
 (166,11,[0,0,0,0,8,0,0,64,224,480,0,0,3072,7168,16355,32739,65535,131071]),
 (166,17,[0,0,0,6,14,0,0,96,224,511,1023,2047]),
 (166,23,[0,0,0,0,8,0,0,64,224,480,0,0,3072,7168,16355,32739,65535,131071]),
 (166,35,[0,0,0,0,12,30,62,0,0,384,896,2047,4095,8191]),
 (171,2,[0,0,0,6,15,31,0,0,0,384,896,2015,4095,0,0,16384,57344,122880,253952,8191,1048575]),
 (178,17,[0,1,3,7,7,23,63,127,7,7,775,1799,4095,8191,16383]),
 (182,8,[0,1,3,7,0,16,48,112,240,511,1023,2047]),
 (185,7,[0,1,3,7,15,31,15,79,255,511,1023,2047,4095,8191,16383,32767,65535,131071,262143,65535,65535,1114111,3735551,7929855,16777215,33554431]),
 (185,12,[0,1,3,7,7,31,63,127,255,255,1023,2047,4095,8191,16383,32767,32767,131071,262143,524287,32767,1081343,4194303,8388607,16777215]),
 (187,16,[0,0,0,6,15,31,63,127,0,0,0,1536,3584,7936,16128,32512,65535,131071]),
 (187,17,[0,0,0,4,14,30,62,127,0,0,0,1024,3584,7680,15872,32512,255,131071]),
 (187,18,[0,1,3,7,7,7,39,119,247,503,1023,7,2055,7,7,7,49159,114695,253959,516103,1040391,2095111,4194303,8388607]),
 (187,43,[0,0,0,0,12,30,62,126,0,0,768,1792,3840,8190,16383,32767]),
 (187,55,[0,0,3,7,0,0,32,112,240,0,512,2032,4095,8191,16383]),
 (190,4,[0,0,3,7,15,15,63,127,15,15,527,1807,3855,8191,16383]),
 (190,6,[0,0,0,0,8,0,0,64,224,480,0,0,3072,7168,16355,32739,65535,131071]),
 (191,10,[0,0,0,0,0,24,0,0,0,384,960,1984,0,0,12288,28672,65475,131011,262143,524287]),
 (192,10,[0,0,0,0,0,24,0,0,0,384,960,1984,0,0,12288,28672,65475,131011,262143,524287]),
 (194,3,[0,0,0,0,0,0,48,112,0,0,768,1792,4083,8179,16383,32767]),
 (195,5,[0,0,3,7,15,15,63,127,15,15,527,1807,3855,8191,16383,32767]),
 (195,11,[0,0,0,0,8,0,0,64,224,480,0,0,3072,7168,16355,32739,65535,131071]),
 (195,16,[0,0,3,7,0,0,32,112,240,511,1023]),
 (195,17,[0,0,0,0,8,0,0,64,224,480,0,0,3072,7168,16355,32739,65535,131071]),
 (195,22,[0,0,3,7,0,0,32,112,240,511,1023]),
 (195,23,[0,0,0,0,8,0,0,64,224,480,0,0,3072,7168,16355,32739,65535,131071]),
 (197,1,[0,0,0,0,0,0,48,112,0,0,768,1792,4083,8179,16383,32767]),
 (197,3,[0,0,3,7,15,15,63,127,15,15,783,1807,4095,8191,16383]),
 (197,5,[0,0,3,7,15,15,63,127,15,15,783,1807,4095,8191]),
 (197,8,[0,0,0,0,0,0,48,112,0,0,768,1792,4083,8179,16383,32767]),
 (198,1,[0,0,0,0,0,0,48,112,0,0,768,1792,4083,8179,16383,32767]),
 (198,3,[0,0,3,7,15,15,63,127,15,15,783,1807,4095,8191]),
 (198,5,[0,0,3,7,15,15,63,127,15,15,783,1807,4095,8191,16383]),
 (198,8,[0,0,0,0,0,0,48,112,0,0,768,1792,4083,8179,16383,32767]),
 (198,10,[0,0,0,0,0,0,48,112,0,0,768,1792,4083,8179,16383,32767]),
 (198,13,[0,0,3,7,15,15,63,127,15,15,783,1807,4095,8191]),
 (198,15,[0,0,3,7,15,15,63,127,15,15,783,1807,4095,8191,16383]),
 (198,18,[0,0,0,0,0,0,48,112,0,0,768,1792,4083,8179,16383,32767]),
 (198,21,[0,0,0,0,0,0,48,112,0,0,768,1792,4083,8179,16383,32767]),
 (201,3,[0,0,0,6,0,0,0,96,0,0,0,1536,3840,7936,0,0,0,98304,245760,507904,1048335,2096911,4194303,8388607]),
 (207,3,[0,1,0,7,15,31,31,31,223,511,1023,31,31,31,12319,28703,63519,129055,262143,524287]),
 (207,5,[0,0,0,6,15,31,0,0,0,384,960,1984,4095,8191]),
 (207,6,[0,0,0,6,0,0,0,96,0,0,0,1536,3840,7936,0,0,0,98304,245760,507904,1048335,2096911,4194303,8388607]),
 (209,1,[0,1,3,0,8,24,56,127,255,511]),
 (209,2,[0,1,3,0,8,24,56,127,255,511]),
 (209,3,[0,1,3,0,8,24,56,127,255,511]),
 (215,7,[0,0,2,0,0,16,0,64,192,0,512,455,2503,8191,16383]),
 (215,8,[0,0,2,0,0,16,0,64,192,0,512,455,2503,8191,16383]),
 (215,9,[0,0,2,0,0,16,0,64,192,0,512,455,2503,8191,16383]),
 (215,10,[0,0,2,0,0,16,0,64,192,0,512,455,2503,8191,16383]),
 (215,17,[0,0,2,0,0,16,0,64,192,0,512,455,2503,8191,16383]),
 (215,18,[0,0,2,0,0,16,0,64,192,0,512,455,2503,8191,16383]),
 (215,23,[0,0,2,0,0,16,0,64,192,0,512,455,2503,8191,16383]),
 (217,1,[0,0,3,7,0,0,48,112,255])]
def SU:List (Nat×Nat×List Nat)->Nat->Nat->List Nat
 | [],_,_=>[]
 | (f,k,m)::l,f',k'=>match Nat.beq f f' && Nat.beq k k' with
  | true=>m
  | false=>SU l f' k'
def ql9:List (Nat×Nat):=[(50,110),(52,111),(108,99),(187,204)]
def Ba:List (Nat×Nat)->Nat->Nat->Bool
 | [],_,_=>false
 | (a,b)::l,f,g=>match Nat.beq a f && Nat.beq b g with
  | true=>true
  | false=>Ba l f g
def qpd:List (Nat×Nat):=[]
def qkm:List (Nat×Nat):=[(108,99)]
def qpf:List Nat:=[172]
def zm:List Nat->Nat->Bool
 | [],_=>false
 | a::l,f=>match Nat.beq a f with
  | true=>true
  | false=>zm l f
def qpo:List (Nat×Nat×List (Nat×Nat)):=[(59,12,[(14,15)])]
def Zd:List (Nat×Nat×List (Nat×Nat))->Nat->Nat->List (Nat×Nat)
 | [],_,_=>[]
 | (a,b,p)::l,f,k=>match Nat.beq a f && Nat.beq b k with
  | true=>p
  | false=>Zd l f k
def qmm:List (Nat×Nat×List (Nat×List Nat)):=[(6,13,[(7,[3]),(9,[3])]),(50,11,[(8,[1])]),(52,5,[(2,[1])]),(52,6,[(5,[1])]),(67,1,[(2,[3])]),(91,16,[(14,[1])]),(97,1,[(7,[8])]),(98,1,[(3,[0,1])])]
def V9:List (Nat×Nat×List (Nat×List Nat))->Nat->Nat->List (Nat×List Nat)
 | [],_,_=>[]
 | (a,b,p)::l,f,k=>match Nat.beq a f && Nat.beq b k with
  | true=>p
  | false=>V9 l f k
def qor:List (Nat×Nat):=[(6,13),(24,3),(34,3),(39,3),(50,11),(52,5),(52,6),(67,1),(91,16),(97,1),(98,1),(101,7),(165,4),(166,5),(166,17),(166,35)]
def qma:List Nat:=[15,17,24,28,29,30,32,33,34,35,36,37,38,39,40,41,42,43,44,49,50,62,65,66,67,68,80,81,84,91,92,93,95,96,97,98,99,100,101,102,103,104,105,106,108,115,124,125,139,145,146,147,165,166,186,201]
def qm1:List (Nat×Nat):=[]
def Lz:List Nat:=[140,177]
noncomputable def ae:Cfg where
 P:=prog
 inl:=fun f g=>match zm qma g with | true=>(match Ba qm1 f g with | true=>false | false=>true) | false=>Ba ql9 f g
 ben:=zm Lz
 seqm:=Ba qor
 late:=V9 qmm
 frzc:=Ba qkm
 arrm:=zm [50,52,54,65,104,124]
 tokm:=zm qpf
 two:=Zd qpo
 thaw:=Ba qpd
 mask:=WQ qmL
 ord:=Xu qnn
 ahd:=SU qg3
 lib:=fun g=>match Nat.beq g 141 with | true=>some y0 | false=>none
 libm:=fun g=>match Nat.beq g 148 with | true=>some zj | false=>match Nat.beq g 149 with | true=>some xZ | false=>none
theorem at3:ae.P.funcs[3]?=some f3:=by kernel_rfl
theorem at8:ae.P.funcs[8]?=some f8:=by kernel_rfl
theorem qhr:ae.P.funcs[11]?=some f11:=by kernel_rfl
theorem qhy:ae.P.funcs[12]?=some f12:=by kernel_rfl
theorem qhV:ae.P.funcs[15]?=some f15:=by kernel_rfl
theorem qia:ae.P.funcs[17]?=some f17:=by kernel_rfl
theorem qie:ae.P.funcs[18]?=some f18:=by kernel_rfl
theorem qim:ae.P.funcs[20]?=some f20:=by kernel_rfl
theorem qir:ae.P.funcs[21]?=some f21:=by kernel_rfl
theorem qis:ae.P.funcs[22]?=some f22:=by kernel_rfl
theorem qit:ae.P.funcs[23]?=some f23:=by kernel_rfl
theorem qiu:ae.P.funcs[31]?=some f31:=by kernel_rfl
theorem qiv:ae.P.funcs[32]?=some f32:=by kernel_rfl
theorem qiw:ae.P.funcs[33]?=some f33:=by kernel_rfl
theorem qix:ae.P.funcs[34]?=some f34:=by kernel_rfl
theorem qiy:ae.P.funcs[41]?=some f41:=by kernel_rfl
theorem qiz:ae.P.funcs[43]?=some f43:=by kernel_rfl
theorem qiA:ae.P.funcs[44]?=some f44:=by kernel_rfl
theorem qiB:ae.P.funcs[45]?=some f45:=by kernel_rfl
theorem qiC:ae.P.funcs[46]?=some f46:=by kernel_rfl
theorem qiD:ae.P.funcs[47]?=some f47:=by kernel_rfl
theorem qiE:ae.P.funcs[48]?=some f48:=by kernel_rfl
theorem qiF:ae.P.funcs[49]?=some f49:=by kernel_rfl
theorem qiG:ae.P.funcs[50]?=some f50:=by kernel_rfl
theorem qiH:ae.P.funcs[53]?=some f53:=by kernel_rfl
theorem qiI:ae.P.funcs[56]?=some f56:=by kernel_rfl
theorem qiJ:ae.P.funcs[57]?=some f57:=by kernel_rfl
theorem qiK:ae.P.funcs[62]?=some f62:=by kernel_rfl
theorem qiL:ae.P.funcs[63]?=some f63:=by kernel_rfl
theorem qiM:ae.P.funcs[64]?=some f64:=by kernel_rfl
theorem qiN:ae.P.funcs[65]?=some f65:=by kernel_rfl
theorem qiO:ae.P.funcs[66]?=some f66:=by kernel_rfl
theorem qiP:ae.P.funcs[67]?=some f67:=by kernel_rfl
theorem qiQ:ae.P.funcs[68]?=some f68:=by kernel_rfl
theorem qiR:ae.P.funcs[69]?=some f69:=by kernel_rfl
theorem qiS:ae.P.funcs[70]?=some f70:=by kernel_rfl
theorem qiT:ae.P.funcs[71]?=some f71:=by kernel_rfl
theorem qiU:ae.P.funcs[72]?=some f72:=by kernel_rfl
theorem qiV:ae.P.funcs[73]?=some f73:=by kernel_rfl
theorem qiW:ae.P.funcs[74]?=some f74:=by kernel_rfl
theorem qiX:ae.P.funcs[75]?=some f75:=by kernel_rfl
theorem qiY:ae.P.funcs[76]?=some f76:=by kernel_rfl
theorem qiZ:ae.P.funcs[77]?=some f77:=by kernel_rfl
theorem qi0:ae.P.funcs[78]?=some f78:=by kernel_rfl
theorem qi1:ae.P.funcs[79]?=some f79:=by kernel_rfl
theorem qi2:ae.P.funcs[80]?=some f80:=by kernel_rfl
theorem qi3:ae.P.funcs[81]?=some f81:=by kernel_rfl
theorem qi4:ae.P.funcs[84]?=some f84:=by kernel_rfl
theorem qi5:ae.P.funcs[88]?=some f88:=by kernel_rfl
theorem qi6:ae.P.funcs[91]?=some f91:=by kernel_rfl
theorem qi7:ae.P.funcs[92]?=some f92:=by kernel_rfl
theorem qi8:ae.P.funcs[93]?=some f93:=by kernel_rfl
theorem qi9:ae.P.funcs[94]?=some f94:=by kernel_rfl
theorem qja:ae.P.funcs[95]?=some f95:=by kernel_rfl
theorem qjb:ae.P.funcs[96]?=some f96:=by kernel_rfl
theorem qjc:ae.P.funcs[97]?=some f97:=by kernel_rfl
theorem qjd:ae.P.funcs[98]?=some f98:=by kernel_rfl
theorem qje:ae.P.funcs[99]?=some f99:=by kernel_rfl
theorem qhm:ae.P.funcs[104]?=some f104:=by kernel_rfl
theorem qhn:ae.P.funcs[106]?=some f106:=by kernel_rfl
theorem qho:ae.P.funcs[107]?=some f107:=by kernel_rfl
theorem qhp:ae.P.funcs[108]?=some f108:=by kernel_rfl
theorem qhq:ae.P.funcs[109]?=some f109:=by kernel_rfl
theorem qhs:ae.P.funcs[110]?=some f110:=by kernel_rfl
theorem qht:ae.P.funcs[112]?=some f112:=by kernel_rfl
theorem qhu:ae.P.funcs[113]?=some f113:=by kernel_rfl
theorem qhv:ae.P.funcs[114]?=some f114:=by kernel_rfl
theorem qhw:ae.P.funcs[118]?=some f118:=by kernel_rfl
theorem qhx:ae.P.funcs[119]?=some f119:=by kernel_rfl
theorem qhz:ae.P.funcs[123]?=some f123:=by kernel_rfl
theorem qhA:ae.P.funcs[124]?=some f124:=by kernel_rfl
theorem qhB:ae.P.funcs[125]?=some f125:=by kernel_rfl
theorem qhC:ae.P.funcs[126]?=some f126:=by kernel_rfl
theorem qhD:ae.P.funcs[127]?=some f127:=by kernel_rfl
theorem qhE:ae.P.funcs[128]?=some f128:=by kernel_rfl
theorem qhF:ae.P.funcs[129]?=some f129:=by kernel_rfl
theorem qhG:ae.P.funcs[130]?=some f130:=by kernel_rfl
theorem qhH:ae.P.funcs[131]?=some f131:=by kernel_rfl
theorem qhI:ae.P.funcs[132]?=some f132:=by kernel_rfl
theorem qhJ:ae.P.funcs[133]?=some f133:=by kernel_rfl
theorem qhK:ae.P.funcs[134]?=some f134:=by kernel_rfl
theorem qhL:ae.P.funcs[135]?=some f135:=by kernel_rfl
theorem qhM:ae.P.funcs[136]?=some f136:=by kernel_rfl
theorem qhN:ae.P.funcs[137]?=some f137:=by kernel_rfl
theorem qhO:ae.P.funcs[139]?=some f139:=by kernel_rfl
theorem qhP:ae.P.funcs[141]?=some f141:=by kernel_rfl
theorem qhQ:ae.P.funcs[142]?=some f142:=by kernel_rfl
theorem qhR:ae.P.funcs[143]?=some f143:=by kernel_rfl
theorem qhS:ae.P.funcs[144]?=some f144:=by kernel_rfl
theorem qhT:ae.P.funcs[145]?=some f145:=by kernel_rfl
theorem qhU:ae.P.funcs[148]?=some f148:=by kernel_rfl
theorem qhW:ae.P.funcs[150]?=some f150:=by kernel_rfl
theorem qhX:ae.P.funcs[151]?=some f151:=by kernel_rfl
theorem qhY:ae.P.funcs[152]?=some f152:=by kernel_rfl
theorem qhZ:ae.P.funcs[153]?=some f153:=by kernel_rfl
theorem qh0:ae.P.funcs[155]?=some f155:=by kernel_rfl
theorem qh1:ae.P.funcs[156]?=some f156:=by kernel_rfl
theorem qh2:ae.P.funcs[157]?=some f157:=by kernel_rfl
theorem qh3:ae.P.funcs[163]?=some f163:=by kernel_rfl
theorem qh4:ae.P.funcs[164]?=some f164:=by kernel_rfl
theorem qh5:ae.P.funcs[165]?=some f165:=by kernel_rfl
theorem qh6:ae.P.funcs[166]?=some f166:=by kernel_rfl
theorem qh7:ae.P.funcs[167]?=some f167:=by kernel_rfl
theorem qh8:ae.P.funcs[168]?=some f168:=by kernel_rfl
theorem qh9:ae.P.funcs[169]?=some f169:=by kernel_rfl
theorem qib:ae.P.funcs[170]?=some f170:=by kernel_rfl
theorem qic:ae.P.funcs[171]?=some f171:=by kernel_rfl
theorem qid:ae.P.funcs[172]?=some f172:=by kernel_rfl
theorem qif:ae.P.funcs[180]?=some f180:=by kernel_rfl
theorem qig:ae.P.funcs[181]?=some f181:=by kernel_rfl
theorem qih:ae.P.funcs[182]?=some f182:=by kernel_rfl
theorem qii:ae.P.funcs[183]?=some f183:=by kernel_rfl
theorem qij:ae.P.funcs[186]?=some f186:=by kernel_rfl
theorem qik:ae.P.funcs[187]?=some f187:=by kernel_rfl
theorem qil:ae.P.funcs[199]?=some f199:=by kernel_rfl
theorem qin:ae.P.funcs[201]?=some f201:=by kernel_rfl
theorem qio:ae.P.funcs[202]?=some f202:=by kernel_rfl
theorem qip:ae.P.funcs[203]?=some f203:=by kernel_rfl
theorem qiq:ae.P.funcs[204]?=some f204:=by kernel_rfl
noncomputable def b8 (f:Nat) (c:Code) (i:Nat) (l:List AV) (m:af) (K:KT):OM:=qC (b6 ae f (AP ae) (AC ae) c) (ae.mask f (some i)) ⟨l,m⟩ K
noncomputable abbrev oH (f:Nat) (c:Code) (i:Nat) (K:KT):KT:=qe (fun st=>qC (b6 ae f (AP ae) (AC ae) c) (ae.mask f (some i)) st K) (ae.mask f (some i)) K
noncomputable abbrev bF (f:Nat) (c:Code) (X:KT):KT:=xe (fun st=>b6 ae f (AP ae) (AC ae) c st X) X
abbrev TG (c:Code):Code:=c1 (c1 (c1 (c1 c)))
abbrev nq (c:Code):Code:=c1 (c1 (c1 (c2 c)))
abbrev ck (c:Code):Code:=c1 (c1 (c2 (c1 c)))
abbrev uO (c:Code):Code:=c1 (c1 (c2 (c2 c)))
abbrev Ht (c:Code):Code:=c1 (c2 (c1 (c1 c)))
abbrev nr (c:Code):Code:=c1 (c2 (c1 (c2 c)))
abbrev Av (c:Code):Code:=c1 (c2 (c2 (c1 c)))
abbrev Db (c:Code):Code:=c1 (c2 (c2 (c2 c)))
abbrev qjV (c:Code):Code:=c2 (c1 (c1 (c1 c)))
abbrev wj (c:Code):Code:=c2 (c1 (c1 (c2 c)))
abbrev Dc (c:Code):Code:=c2 (c1 (c2 (c1 c)))
abbrev pU (c:Code):Code:=c2 (c1 (c2 (c2 c)))
abbrev lS (c:Code):Code:=c2 (c2 (c1 (c1 c)))
abbrev LM (c:Code):Code:=c2 (c2 (c1 (c2 c)))
abbrev lT (c:Code):Code:=c2 (c2 (c2 (c1 c)))
abbrev bo (c:Code):Code:=c2 (c2 (c2 (c2 c)))
end Go.Ab
namespace Go.Ab
noncomputable section
open Go.Proofs.Tryz
theorem T32 (a0:AV) (m:af):AC ae 32 [a0] m=(aK false a0).bind fun v1=>(ag .other .gtr v1 (.int .i64 16)).bind fun v2=>aw v2 (some ((.tup [.nilp,(.int .i64 2)]),m)) ((AC ae 92 [a0,(.fn 93 [])] m).bind fun r3=>aw r3.1 (some ((.tup [.nilp,(.int .i64 1)]),r3.2)) ((aD (AP ae) none r3.2 88 [a0]).bind fun r4=>(fR (.agg [au,au,.nilm,(.int .i64 0)]) [(0,none,r4.1),(2,none,(.mref (aA none r4.2 .resv).1)),(3,none,(.int .i64 4000))]).bind fun v5=>(eR none (some 4) (aA none r4.2 (.mp .str [])).2 v5).bind fun r6=>some ((.tup [r6.1,(.int .i64 0)]),r6.2))):=
(bh ae 32 [a0] m (fn:=f32) (c:=aC f32) qiv rfl).trans (by kernel_rfl)
theorem T92 (a0 a1:AV) (m:af):AC ae 92 [a0,a1] m=(AC ae 145 [a0,a1] m).bind fun r1=>(ag .other .geq r1.1 (.int .i64 0)).bind fun v2=>some (v2,r1.2):=
(bh ae 92 [a0,a1] m (fn:=f92) (c:=aC f92) qi7 rfl).trans (by kernel_rfl)
def Rl (m:af):St:=⟨(bD (aO (aH []))),m⟩
def RB (x4:AV) (m:af):St:=⟨(aP (x4::aY (aP (aO [])))),m⟩
def zO (x0 x1 x7 x8:AV) (m:af) (K:KT):OM:=b8 145 (ck (c2 (aC f145))) 2 (x0::x1::aP (aH (x7::x8::aY (aO [])))) m K
abbrev qbR (K:KT):KT:=bF 145 (c2 (c2 (aC f145))) K
abbrev qbS (K:KT):KT:=bu 0 (qbR K)
abbrev zJ (K:KT):KT:=(qbS K)
theorem qfz (a0 a1:AV) (m:af):AC ae 145 [a0,a1] m=(aK false a0).bind fun v1=>zO a0 a1 v1 (.int .i64 0) m (zJ (aF ae.P f145.results.toList)):=
(bh ae 145 [a0,a1] m (fn:=f145) (c:=aC f145) qhT rfl).trans (by kernel_rfl)
theorem Qv (x0 x1 x7 x8:AV) (m:af) (K:KT):zO x0 x1 x7 x8 m K=(ag .other .lss x8 x7).bind fun v1=>aw v1 ((aG none x0 x8).bind fun v2=>(ai none m v2).bind fun v3=>(lp x1).bind fun g4=>jU ae 145 (AP ae) (AC ae) none g4.1 ([v3]++g4.2) m fun v5 m6=>aw v5 (K .ret (RB x8 m6)) ((ag .other .add x8 (.int .i64 1)).bind fun v7=>zO x0 x1 x7 v7 m6 K)) (K (.exit 0) (Rl m)):=
(b7 (bX _) _ _ _).trans (by kernel_rfl)
theorem qbU (m:af):zJ (aF ae.P f145.results.toList) (.exit 0) (Rl  m)=some ((.int .i64 (-1)),m):=by kernel_rfl
theorem qbT (x4:AV) (m:af):zJ (aF ae.P f145.results.toList) .ret (RB x4 m)=some (x4,m):=by kernel_rfl
theorem T93 (a0:AV) (m:af):AC ae 93 [a0] m=(ag .other .lss a0 (.int .i64 1)).bind fun v1=>aw v1 (some ((.bool true),m)) ((ag .other .gtr a0 (.int .i64 64)).bind fun v2=>some (v2,m)):=
(bh ae 93 [a0] m (fn:=f93) (c:=aC f93) qi8 rfl).trans (by kernel_rfl)
theorem Lh (a0:AV) (m:af):AC ae 88 [a0] m=(ag .sl .eql a0 au).bind fun v1=>aw v1 (some (au,m)) ((fh none []).bind fun v2=>(cg none false 3 none 8 m v2 a0).bind fun r3=>some (r3.1,r3.2)):=
(bh ae 88 [a0] m (fn:=f88) (c:=aC f88) qi5 rfl).trans (by kernel_rfl)
theorem T80 (a0:AV) (m:af):AC ae 80 [a0] m=(ag .pt .eql a0 .nilp).bind fun v1=>aw v1 (some ((.bool true),m)) ((iD a0).bind fun v2=>(aS 3 v2).bind fun v3=>(ai none m v3).bind fun v4=>(ag .other .eql v4 (.int .i64 0)).bind fun v5=>some (v5,m)):=
(bh ae 80 [a0] m (fn:=f80) (c:=aC f80) qi2 rfl).trans (by kernel_rfl)
theorem RY (a0:AV) (m:af):AC ae 94 [a0] m=(ag .other .geq a0 (.int .i64 0)).bind fun v1=>aw v1 ((ag .other .leq a0 (.int .i64 2147483647)).bind fun v2=>some (v2,m)) (some ((.bool false),m)):=
(bh ae 94 [a0] m (fn:=f94) (c:=aC f94) qi9 rfl).trans (by kernel_rfl)
theorem RX (a0 a1:AV) (m:af):AC ae 84 [a0,a1] m=(eR none none m a0).bind fun r1=>(ai none (aA none (aA none r1.2 (.obj true [(.int .i64 0)])).2 (.obj true [(.int .i64 0)])).2 r1.1).bind fun v2=>(iD v2).bind fun v3=>(aS 1 v3).bind fun v4=>(ai none (aA none (aA none r1.2 (.obj true [(.int .i64 0)])).2 (.obj true [(.int .i64 0)])).2 v4).bind fun v5=>(aK false v5).bind fun v6=>(aN none (aA none (aA none (aA none r1.2 (.obj true [(.int .i64 0)])).2 (.obj true [(.int .i64 0)])).2 (.obj true [(.int .i64 0)])).2 (.ptr (aA none (aA none (aA none r1.2 (.obj true [(.int .i64 0)])).2 (.obj true [(.int .i64 0)])).2 .resv).1 0) v6).bind fun m7=>(lp a1).bind fun g8=>jU ae 84 (AP ae) (AC ae) none g8.1 ([]++g8.2) m7 fun v9 m10=>(aN none m10 (.ptr (aA none r1.2 .resv).1 0) v9).bind fun m11=>(aN none m11 (.ptr (aA none (aA none r1.2 (.obj true [(.int .i64 0)])).2 .resv).1 0) (.int .i64 0)).bind fun m12=>(ai none m12 (.ptr (aA none r1.2 .resv).1 0)).bind fun bp=>(ai none m12 (.ptr (aA none (aA none r1.2 (.obj true [(.int .i64 0)])).2 .resv).1 0)).bind fun bj=>some ((.tup [bp,bj]),m12):=
(bh ae 84 [a0,a1] m (fn:=f84) (c:=aC f84) qi4 rfl).trans (by kernel_rfl)
theorem T95 (a0 a1:AV) (m:af):AC ae 95 [a0,a1] m=(ai none m a0).bind fun v1=>(ai none m a1).bind fun v2=>(AC ae 96 [v1,v2] m).bind fun r3=>some (r3.1,r3.2):=
(bh ae 95 [a0,a1] m (fn:=f95) (c:=aC f95) qja rfl).trans (by kernel_rfl)
theorem T96 (a0 a1:AV) (m:af):AC ae 96 [a0,a1] m=(fR (.agg [(.int .i64 0),au,(.int .i64 0)]) [(0,none,(.int .i64 (-1))),(2,none,a1)]).bind fun v1=>(AC ae 139 [a0,v1] m).bind fun r2=>some (r2.1,r2.2):=
(bh ae 96 [a0,a1] m (fn:=f96) (c:=aC f96) qjb rfl).trans (by kernel_rfl)
theorem T81 (a0 a1:AV) (m:af):AC ae 81 [a0,a1] m=(ag .other .geq a1 (.int .i64 0)).bind fun v1=>aw v1 ((iD a0).bind fun v2=>(aS 1 v2).bind fun v3=>(ai none m v3).bind fun v4=>(aK false v4).bind fun v5=>(ag .other .lss a1 v5).bind fun v6=>some (v6,m)) (some ((.bool false),m)):=
(bh ae 81 [a0,a1] m (fn:=f81) (c:=aC f81) qi3 rfl).trans (by kernel_rfl)
theorem T68 (a0 a1:AV) (m:af):AC ae 68 [a0,a1] m=(iD a0).bind fun v1=>(aS 1 v1).bind fun v2=>(ai none m v2).bind fun v3=>(aG (some 3) v3 a1).bind fun v4=>(ai (some 3) m v4).bind fun v5=>(aN (some 3) (aA none m (.obj true [(.int .i64 0),au,(.int .i64 0)])).2 (.ptr (aA none m .resv).1 0) v5).bind fun m6=>(aS 0 (.ptr (aA none m .resv).1 0)).bind fun v7=>(ai none m6 v7).bind fun v8=>(ag .other .geq v8 (.int .i64 0)).bind fun v9=>aw v9 ((aS 0 (.ptr (aA none m .resv).1 0)).bind fun v10=>(ai none m6 v10).bind fun v11=>some (v11,m6)) ((iD a0).bind fun v12=>(aS 0 v12).bind fun bp=>(ai none m6 bp).bind fun bj=>(aK false bj).bind fun bn=>some (bn,m6)):=
(bh ae 68 [a0,a1] m (fn:=f68) (c:=aC f68) qiQ rfl).trans (by kernel_rfl)
def Lb (x2:AV) (m:af):St:=⟨(aO (x2::bD (aY (aO [])))),m⟩
def Lc (x6:AV) (m:af):St:=⟨(aP (aO (x6::bD (aP (aO []))))),m⟩
def Gs (x0 x1 x2 x9 aE aW:AV) (m:af) (K:KT):OM:=b8 99 (ck (c2 (aC f99))) 2 (x0::x1::x2::aP (aO (x9::aE::aW::bD (aH [])))) m K
abbrev qeG (K:KT):KT:=bF 99 (c2 (c2 (aC f99))) K
abbrev qeH (K:KT):KT:=bu 0 (qeG K)
abbrev FE (K:KT):KT:=(qeH K)
theorem T99 (a0 a1 a2:AV) (m:af):AC ae 99 [a0,a1,a2] m=(aK false a2).bind fun v1=>Gs a0 a1 a2 a2 v1 (.int .i64 0) m (FE (aF ae.P f99.results.toList)):=
(bh ae 99 [a0,a1,a2] m (fn:=f99) (c:=aC f99) qje rfl).trans (by kernel_rfl)
theorem Ra (x0 x1 x2 x9 aE aW:AV) (m:af) (K:KT):Gs x0 x1 x2 x9 aE aW m K=(ag .other .lss aW aE).bind fun v1=>aw v1 ((aG none x9 aW).bind fun v2=>(ai none m v2).bind fun v3=>(aG none x2 (.int .i64 0)).bind fun v4=>(ai none m v4).bind fun v5=>(ag .other .neq v3 v5).bind fun v6=>aw v6 ((fR (.agg [(.int .i64 0),au,(.int .i64 0)]) [(0,none,x1),(1,none,x2)]).bind fun v7=>(AC ae 139 [x0,v7] m).bind fun r8=>K .ret (Lc r8.1 r8.2)) ((ag .other .add aW (.int .i64 1)).bind fun v9=>Gs x0 x1 x2 x9 aE v9 m K)) (K (.exit 0) (Lb x2 m)):=
(b7 (bX _) _ _ _).trans (by kernel_rfl)
theorem qeJ (x2:AV) (m:af):FE (aF ae.P f99.results.toList) (.exit 0) (Lb x2 m)=(aG none x2 (.int .i64 0)).bind fun v1=>(ai none m v1).bind fun v2=>some (v2,m):=by kernel_rfl
theorem qeI (x6:AV) (m:af):FE (aF ae.P f99.results.toList) .ret (Lc x6 m)=some (x6,m):=by kernel_rfl
theorem Le (a0 a1:AV) (m:af):AC ae 139 [a0,a1] m=(eR none (some 3) m a1).bind fun r1=>(ai (some 3) r1.2 r1.1).bind fun v2=>(y0 [v2]).bind fun v3=>(iD a0).bind fun v4=>(aS 2 v4).bind fun v5=>(ai none r1.2 v5).bind fun v6=>(oX .str (.int .i64 0) r1.2 v6 v3).bind fun q7=>(ba (.tup [q7.1,.bool q7.2]) 0).bind fun v8=>(ba (.tup [q7.1,.bool q7.2]) 1).bind fun v9=>aw v9 (some (v8,r1.2)) ((iD a0).bind fun v10=>(aS 1 v10).bind fun v11=>(ai none r1.2 v11).bind fun v12=>(aK false v12).bind fun bp=>(iD a0).bind fun bj=>(aS 3 bj).bind fun bn=>(ai none r1.2 bn).bind fun bO=>(ag .other .geq bp bO).bind fun bB=>aw bB ((fR (.agg []) []).bind fun fk=>none) ((iD a0).bind fun eU=>(aS 1 eU).bind fun v20=>(ai none (dG r1.2 1) v20).bind fun v21=>(ai (some 3) (dG r1.2 1) r1.1).bind fun v22=>(fh (some 3) [v22]).bind fun v23=>(cg (some r1.2.length) false 74 (some 3) 40 (dG r1.2 1) v21 v23).bind fun nM=>(iD a0).bind fun v25=>(aS 1 v25).bind fun v26=>(aN none nM.2 v26 nM.1).bind fun m27=>(iD a0).bind fun v28=>(aS 2 v28).bind fun j9=>(ai none m27 j9).bind fun v30=>(iD a0).bind fun v31=>(aS 1 v31).bind fun mN=>(ai none m27 mN).bind fun oI=>(aK false oI).bind fun qN=>(ag .other .sub qN (.int .i64 1)).bind fun ml=>(kO .str m27 v30 v3 ml).bind fun m36=>(iD a0).bind fun v37=>(aS 1 v37).bind fun qO=>(ai none m36 qO).bind fun rH=>(aK false rH).bind fun v40=>(ag .other .sub v40 (.int .i64 1)).bind fun zq=>some (zq,m36))):=
(bh ae 139 [a0,a1] m (fn:=f139) (c:=aC f139) qhO rfl).trans (by kernel_rfl)
theorem RQ (a0 a1:AV) (m:af):AC ae 33 [a0,a1] m=(eR none none m a0).bind fun r1=>(eR none none r1.2 a1).bind fun r2=>(ai none r2.2 r1.1).bind fun v3=>(AC ae 80 [v3] r2.2).bind fun r4=>aw r4.1 (some ((.tup [(.int .i64 0),(.int .i64 4)]),r4.2)) ((ai none r4.2 r2.1).bind fun v5=>(aD (AP ae) none r4.2 94 [v5]).bind fun r6=>(jg .not r6.1).bind fun v7=>aw v7 (some ((.tup [(.int .i64 0),(.int .i64 1)]),r6.2)) ((ai none r6.2 r1.1).bind fun v8=>(AC ae 84 [v8,(.fn 95 [r1.1,r2.1])] r6.2).bind fun r9=>(ba r9.1 0).bind fun v10=>(ba r9.1 1).bind fun v11=>some ((.tup [v10,v11]),r9.2))):=
(bh ae 33 [a0,a1] m (fn:=f33) (c:=aC f33) qiw rfl).trans (by kernel_rfl)
end
end Go.Ab
namespace Go.Ab
theorem qpG (x:Int):IntKind.wrap .i64 x=if x % 18446744073709551616≥9223372036854775808 then x % 18446744073709551616 - 18446744073709551616 else x % 18446744073709551616:=by
 show (if (true && decide (x % 18446744073709551616≥9223372036854775808))=true then x % 18446744073709551616 - 18446744073709551616 else x % 18446744073709551616)=_
 simp
theorem Zy (x:Int):IntKind.wrap .u64 x=x % 18446744073709551616:=by
 rfl
theorem xp (x:Int):IntKind.wrap .u32 x=x % 4294967296:=by
 rfl
theorem iK {x:Int} (h:-9223372036854775808<=x) (h':x < 9223372036854775808):IntKind.wrap .i64 x=x:=by
 rw[qpG];split<;>omega
theorem jn {x:Int} (h:0<=x) (h':x < 18446744073709551616):IntKind.wrap .u64 x=x:=by
 rw[Zy];omega
theorem zx {x:Int} (h:0<=x) (h':x < 4294967296):IntKind.wrap .u32 x=x:=by
 rw[xp];omega
structure NV where
 z:Bool
 o:Own
 ds:List Nat
def dg (d:Nat):AV:=.int .u32 d
def NV.av (x:NV):AV:=.lst none x.z x.o (x.ds.map dg)
section
variable {R:Type}
theorem hJ (tk:TK) (k:IntKind) (a b:Int):ag tk .gtr (.int k a) (.int k b)=some (.bool (decide (a > b))):=by cases tk<;>simp[ag,re]
theorem bg (tk:TK) (k:IntKind) (a b:Int):ag tk .lss (.int k a) (.int k b)=some (.bool (decide (a < b))):=by cases tk<;>simp[ag,re]
theorem kF (tk:TK) (k:IntKind) (a b:Int):ag tk .geq (.int k a) (.int k b)=some (.bool (decide (a≥b))):=by cases tk<;>simp[ag,re]
theorem sg (tk:TK) (k:IntKind) (a b:Int):ag tk .leq (.int k a) (.int k b)=some (.bool (decide (a<=b))):=by cases tk<;>simp[ag,re]
theorem ir (tk:TK) (k:IntKind) (a b:Int):ag tk .eql (.int k a) (.int k b)=some (.bool (decide (a=b))):=by cases tk<;>simp[ag,re]<;>rfl
theorem iY (tk:TK) (k:IntKind) (a b:Int):ag tk .neq (.int k a) (.int k b)=some (.bool (decide (a≠b))):=by cases tk<;>simp[ag,re]<;>by_cases h:a=b<;>simp[h]
theorem kQ (tk:TK) (k:IntKind) (a b:Int):ag tk .add (.int k a) (.int k b)=some (.int k (k.wrap (a+b))):=by cases tk<;>simp[ag,re]
theorem pv (tk:TK) (k:IntKind) (a b:Int):ag tk .sub (.int k a) (.int k b)=some (.int k (k.wrap (a - b))):=by cases tk<;>simp[ag,re]
theorem we (tk:TK) (k:IntKind) (a b:Int):ag tk .mul (.int k a) (.int k b)=some (.int k (k.wrap (a * b))):=by cases tk<;>simp[ag,re]
theorem oW (sh:Sh) (z:Bool) (o:Own) (es:List AV):aK false (.lst sh z o es)=some (.int .i64 es.length):=rfl
theorem az (p:Prop) [Decidable p] (x y:Option R):aw (.bool (decide p)) x y=if p then x else y:=by
 by_cases h:p<;>simp[aw,h]
theorem ua {z:Bool} {o:Own} {ds:List Nat} {k:IntKind} {i:Int} (h:0<=i) (h':i < ds.length):aG none (.lst none z o (ds.map dg)) (.int k i)=some (.vptr [dg (ds.getD i.toNat 0)]):=by
 have hi:i.toNat < ds.length:=by omega
 simp[aG,h,hi,AV.cells,dg,aT]
theorem gz (m:af) (x:AV):ai none m (.vptr [x])=some x:=rfl
theorem YO {z:Bool} {o:Own} {ds:List Nat} {k:IntKind} {i:Int} (h:0<=i) (h':i<=ds.length):kU none (.lst none z o (ds.map dg)) none (some (.int k i)) none=some (.lst none z .no ((ds.take i.toNat).map dg)):=by
 simp[kU,qg,jj,h,h',xL]
end
def Own.fr:Own->Own
 | .tok ..=>.no
 | o=>o
def NV.fr (x:NV):NV:=⟨x.z,x.o.fr,x.ds⟩
def Fz (v v':AV):Prop:=∀ m,bH m km v=some (v',[])
theorem cu (x:NV):Fz x.av x.fr.av:=by
 intro m;obtain ⟨z,o,ds⟩:=x;cases o<;>rfl
theorem gu (k:IntKind) (n:Int):Fz (.int k n) (.int k n):=fun _=>rfl
theorem px (b:Bool):Fz (.bool b) (.bool b):=fun _=>rfl
section
variable {cp:Nat->List AV->Option AV} {d:Option Nat} {m:af} {g:Nat}
theorem Ep:aD cp d m g []=(cp g []).map fun v=>(v,m):=by
 simp[aD,fD,jm]
theorem cw {a a':AV} (ha:Fz a a'):aD cp d m g [a]=(cp g [a']).map fun v=>(v,m):=by
 simp[aD,fD,jm,ha m]
theorem fP {a a' b b':AV} (ha:Fz a a') (hb:Fz b b'):aD cp d m g [a,b]=(cp g [a',b']).map fun v=>(v,m):=by
 simp[aD,fD,jm,ha m,hb m]
theorem IS {a a' b b' c c':AV} (ha:Fz a a') (hb:Fz b b') (hc:Fz c c'):aD cp d m g [a,b,c]=(cp g [a',b',c']).map fun v=>(v,m):=by
 simp[aD,fD,jm,ha m,hb m,hc m]
theorem qnF {a a' b b' c c' e e':AV} (ha:Fz a a') (hb:Fz b b') (hc:Fz c c') (he:Fz e e'):aD cp d m g [a,b,c,e]=(cp g [a',b',c',e']).map fun v=>(v,m):=by
 simp[aD,fD,jm,ha m,hb m,hc m,he m]
end
theorem iH {C:Cfg} {f:Nat} {args:List AV} {v v':AV} {m:af} {l:List Nat} (h:AC C f args []=some (v,m)) (hf:bH m km v=some (v',l)) (hv:(mf args || iQ v')=true):AP C f args=some v':=by
 unfold AP jB;rw[h];simp only[aa,hf,an hv]
theorem pK (x:NV):iQ x.av=true:=rfl
def nQ (m:af) (n:Nat):af:=m++[some (.tok n 1)]
theorem WG {e b:Nat} {z:AV} {m:af} {c:Int} (h:0 < c) (h':c * b<=281474976710656) (h2:c<=9223372036854775807):iV none e none z b m (.int .i64 0) (.int .i64 c)=some (.lst none false (.tok m.length e) [],nQ m 0):=by
 have h3:¬ (0:Int)=c:=by omega
 have h4:0<=c:=by omega
 simp[iV,h3,h4,h',h2,aA,nQ,Sh.size]
theorem C0 {e b:Nat} {m:af} {es:List AV} {z:Bool} {o:Own} {y:AV} (h:(es.length+1) * b<=gL):cg none false e none b (nQ m es.length) (.lst none false (.tok m.length e) es) (.lst none z o [y])=some (.lst none false (.tok m.length e) (es++[y]),nQ m (es.length+1)):=by
 simp[cg,nQ,af.get,Sh.size,h]
theorem rh (k:IntKind) (n:Int):fh none [.int k n]=some (.lst none false .full [.int k n]):=rfl
theorem lR (k k':IntKind) (n:Int):bm k (.int k' n)=some (.int k (k.wrap n)):=rfl
theorem Tc (tk:TK) (k k':IntKind) (a b:Int) (h:0<=b):ag tk .shr (.int k a) (.int k' b)=some (.int k (a.fdiv (2 ^ (min b.toNat k.bits)))):=by
 have:¬ b < 0:=by omega
 cases tk<;>simp[ag,s6,this]
theorem C2 (tk:TK) (k':IntKind) (a:Int) (h:0<=a):ag tk .shr (.int .u64 a) (.int k' 32)=some (.int .u64 (a / 4294967296)):=by
 rw[Tc tk .u64 k' a 32 (by omega)];show some (AV.int .u64 (a.fdiv 4294967296))=_;rw[Int.fdiv_eq_ediv_of_nonneg _ (by omega)]
def nj (m:af) (ds:List Nat):af:=m++[some (.obj false (ds.map dg))]
theorem WE {e b:Nat} {m:af} {n:Nat} (h':n * b<=281474976710656) (h2:n<=9223372036854775807):iV none e none (.int .u32 0) b m (.int .i64 n) (.int .i64 n)=some (.arr m.length 0 n none,nj m (List.replicate n 0)):=by
 have h3:(n:Int) * b<=281474976710656:=by
  have:=Int.ofNat_le.2 h';rw[rQ] at this;exact this
 have h4:(n:Int)<=9223372036854775807:=by omega
 have h5:(0:Int)<=n:=by omega
 simp only[iV,h3,h4,h5,aA,nj,rN,qQ,and_self,bq,cK,List.map_replicate]
 rfl
theorem Om (m:af) (ds:List Nat):(nj m ds).obj? m.length=some (false,ds.map dg):=by
 simp[nj,af.obj?,af.get]
theorem fU {nm n:Nat} {k:IntKind} {i:Nat} (h:i < n):aG none (.arr nm 0 n none) (.int k i)=some (.ptr nm i):=by
 have:(i:Int) < n:=by omega
 simp[aG,this,Sh.size]
theorem qmy {m:af} {ds:List Nat} {i:Nat} (h:i < ds.length):ai none (nj m ds) (.ptr m.length i)=some (dg (ds.getD i 0)):=by
 simp[ai,Om,ki,aT,h]
theorem BE {m:af} {ds:List Nat} {i v:Nat} (h:i < ds.length):aN none (nj m ds) (.ptr m.length i) (.int .u32 v)=some (nj m (ds.set i v)):=by
 have h1:i+1<=ds.length:=h;simp only[aN,Om,aa,Sh.size,bU,h1,bq,cZ,ff,AV.cells];congr 1;simp only[nj,bC,aJ,aM];rw[tm _ _ (aR _)];simp only[pP,cD];congr 4;rw[List.map_set,CA];simp[h,dg,xL,List.map_drop]
theorem NY (m:af) (k:Nat):∀ ds:List Nat,fD (bH m (k+1)) (ds.map dg)=some (ds.map dg,[])
 | []=>rfl
 | d::ds=>by
  have:bH m (k+1) (dg d)=some (dg d,[]):=rfl;simp[fD,this,NY m k ds]
theorem OA:∀ ds:List Nat,mg (ds.map dg)=true
 | []=>rfl
 | d::ds=>by
  have:pl (dg d)=true:=rfl;simp[mg,this,OA ds]
theorem qko (m:af) (ds:List Nat):bH (nj m ds) km (.arr m.length 0 ds.length none)=some (.lst none false .no (ds.map dg),[m.length]):=by
 have h1:((ds.map dg).all ff)=true:=by simp[List.all_map,dg,ff]
 show ((nj m ds).obj? m.length).bind _=_;rw[Om];simp only[aa,Sh.size,bU,bf,mq,aR,decide_true,nT,pg,bq,jT,kY (by simp:(ds.map dg).length<=ds.length)];rw[NY];simp only[aa,h1,OA,pg,bq,lW];rw[kY (by simp)]
theorem qnG {cp:Nat->List AV->Option AV} {m:af} {g:Nat} {ds:List Nat}:aD cp none (nj m ds) g [.arr m.length 0 ds.length none]=(cp g [.lst none false .no (ds.map dg)]).map fun v=>(v,m++[none]):=by
 simp only[aD,fD,qko,aa,jm,Option.isSome_none,lQ,bP,ux,List.foldl_nil];simp[nj]
theorem Tb (tk:TK) (k':IntKind) (a:Nat) (h:a < 4294967296):ag tk .shl (.int .u64 a) (.int k' 32)=some (.int .u64 (a * 4294967296:Nat)):=by
 have e:ag tk .shl (.int .u64 a) (.int k' 32)=some (.int .u64 (IntKind.wrap .u64 ((a:Int) * 4294967296))):=by cases tk<;>rfl
 rw[e,jn (by omega) (by omega)]
 rfl
theorem qjj (tk:TK) (lo hi:Nat) (h:lo < 4294967296) (h':hi < 4294967296):ag tk .or (.int .u64 lo) (.int .u64 (hi * 4294967296:Nat))=some (.int .u64 (lo+hi * 4294967296:Nat)):=by
 have e:ag tk .or (.int .u64 lo) (.int .u64 (hi * 4294967296:Nat))=some (.int .u64 (IntKind.wrap .u64 ((BitVec.ofInt 64 lo ||| BitVec.ofInt 64 (hi * 4294967296:Nat)).toNat:Nat))):=by cases tk<;>rfl
 have e2:(BitVec.ofInt 64 (lo:Int) ||| BitVec.ofInt 64 ((hi * 4294967296:Nat):Int)).toNat=lo+hi * 4294967296:=by
  rw[BitVec.toNat_or,xu,xu];have h1:(((lo:Nat):Int) % ((2 ^ 64:Nat):Int)).toNat=lo:=by omega
  have h2:(((hi * 4294967296:Nat):Int) % ((2 ^ 64:Nat):Int)).toNat=hi * 4294967296:=by omega
  rw[h1,h2,Nat.or_comm];have:=Nat.two_pow_add_eq_or_of_lt (i:=32) (b:=lo) (by omega) hi;rw[show hi * 4294967296=2 ^ 32 * hi by omega,<- this];omega
 rw[e,e2,jn (by omega) (by omega)]
end Go.Ab
namespace Go.Ab
def lP (ds:List Nat):Nat->Nat
 | 0=>0
 | n+1=>if ds.getD n 0=0 then lP ds n else n+1
theorem EA (ds:List Nat):∀ n,lP ds n<=n
 | 0=>aR _
 | n+1=>by
  rw[lP]
  split
  ·exact Nat.le_succ_of_le (EA ds n)
  ·exact aR _
def tr (ds:List Nat):List Nat:=ds.take (lP ds ds.length)
theorem BJ (a:List Nat):(tr a).length<=a.length:=by simp only[tr,ji];omega
def Dg (a:List Nat):Prop:=∀ i,a.getD i 0 < 4294967296
theorem Dg.take {a:List Nat} (h:Dg a) (n:Nat):Dg (a.take n):=by
 intro i;have:=h i;simp only[aT,qo] at this ⊢
 split
 ·exact this
 ·simp
theorem Dg.set {a:List Nat} (h:Dg a) (n v:Nat) (hv:v < 4294967296):Dg (a.set n v):=by
 intro i;have:=h i;simp only[aT,List.getElem?_set] at this ⊢
 split
 ·split
  ·exact hv
  ·simp
 ·exact this
theorem ta {a:List Nat} (h:Dg a):Dg (tr a):=h.take _
theorem ym {l:List Nat} {i:Nat} (h:¬ (i:Int) < (l.length:Int)):l.getD i 0=0:=by
 rw[aT,mQ (by omega)];rfl
theorem yd:Dg []:=by intro i;simp
theorem mD {d:Nat} {ds:List Nat}:Dg (d::ds)↔d < 4294967296/\Dg ds:=by
 constructor
 ·intro h;exact ⟨h 0,fun i=>h (i+1)⟩
 ·intro h i
  cases i with
  | zero=>exact h.1
  | succ i=>exact h.2 i
theorem yc {a b:List Nat} (ha:Dg a) (hb:Dg b):Dg (a++b):=by
 induction a with
 | nil=>exact hb
 | cons d a ih=>exact mD.2 ⟨(mD.1 ha).1,ih (mD.1 ha).2⟩
theorem uQ {d:Nat} (h:d < 4294967296):Dg [d]:=mD.2 ⟨h,yd⟩
theorem ye (n:Nat):Dg (List.replicate n 0):=by
 induction n with
 | zero=>exact yd
 | succ n ih=>exact mD.2 ⟨by decide,ih⟩
theorem uS {l:List Nat} {i j v:Nat} (h:i≠j):(l.set i v).getD j 0=l.getD j 0:=by
 simp only[aT];rw[Gt h]
theorem rm {l:List Nat} {i v:Nat} (h:i < l.length):(l.set i v).getD i 0=v:=by
 simp only[aT];rw[Cv h];rfl
theorem HK (n i:Nat):(List.replicate n 0).getD i 0=0:=by
 simp only[aT,Aa];split<;>rfl
theorem Bu (p b c:Nat):p * c=p * (c % b)+p * b * (c / b):=by
 rw[fB,<- gm,Nat.mod_add_div]
theorem XU (p b x s:Nat) (h:s<=x+b):p * (x+b - s)+p * s=p * x+p * b:=by
 rw[<- gm,Nat.sub_add_cancel h,gm]
theorem IW (p x s:Nat) (h:s<=x):p * (x - s)+p * s=p * x:=by
 rw[<- gm,Nat.sub_add_cancel h]
def val:List Nat->Nat
 | []=>0
 | d::ds=>d+4294967296 * val ds
def aB (n:Nat):List Nat:=if h:n=0 then [] else n % 4294967296::aB (n / 4294967296)
 termination_by n
 decreasing_by exact Nat.div_lt_self (by omega) (by omega)
theorem lh:aB 0=[]:=by rw[aB];rfl
theorem yf {n:Nat} (h:n≠0):aB n=n % 4294967296::aB (n / 4294967296):=by rw[aB,dif_neg h]
theorem gj (n:Nat):val (aB n)=n:=by
 induction n using Nat.strongRecOn with
 | ind n ih=>
  by_cases h:n=0
  ·subst h;rw[lh];rfl
  ·rw[yf h,val,ih _ (Nat.div_lt_self (by omega) (by omega))];omega
theorem gd (n:Nat):Dg (aB n):=by
 induction n using Nat.strongRecOn with
 | ind n ih=>
  by_cases h:n=0
  ·subst h;rw[lh];exact yd
  ·rw[yf h];exact mD.2 ⟨kf _ (by omega),ih _ (Nat.div_lt_self (by omega) (by omega))⟩
theorem oL {k:Nat}:∀ {n:Nat},n < 4294967296 ^ k->(aB n).length<=k:=by
 induction k with
 | zero=>
   intro n h;have:n=0:=by simpa using h
   subst this;rw[lh];exact aR _
 | succ k ih=>
  intro n h
  by_cases h0:n=0
  ·subst h0;rw[lh];exact mw _
  ·rw[yf h0,aJ];refine Nat.succ_le_succ (ih ?_);rw[jO] at h;exact Nat.div_lt_of_lt_mul (by rw[cP];exact h)
theorem mO {ds:List Nat} (h:Dg ds):val ds < 4294967296 ^ ds.length:=by
 induction ds with
 | nil=>exact Nat.one_pos
 | cons d ds ih=>
  have ih:=ih (mD.1 h).2;have hd:=(mD.1 h).1;rw[val,aJ,jO];omega
theorem TN {ds:List Nat} (h:Dg ds):(aB (val ds)).length<=ds.length:=oL (mO h)
theorem EM {n:Nat}:aB n=[]↔n=0:=by
 constructor
 ·intro h;have:=gj n;rw[h] at this;exact this.symm
 ·intro h;subst h;exact lh
theorem qj1 {a b:Nat} (h:aB a=aB b):a=b:=by
 have:=dc val h
 rwa [gj,gj] at this
theorem Zc (d:Nat) (ds:List Nat):∀ n,lP (d::ds) (n+1)=if lP ds n=0 then (if d=0 then 0 else 1) else lP ds n+1
 | 0=>by
  simp only[lP,pk,bq]
 | n+1=>by
  rw[lP,Zc d ds n];simp only[xI];rw[lP]
  by_cases h:ds.getD n 0=0
  ·rw[an h,an h]
  ·rw[aj h,aj h,aj (by omega)]
theorem qpj (d:Nat) (ds:List Nat):tr (d::ds)=if tr ds=[] then (if d=0 then [] else [d]) else d::tr ds:=by
 have h0:tr ds=[]↔lP ds ds.length=0:=by
  have:=EA ds ds.length;rw[tr,<- List.length_eq_zero_iff,ji];omega
 rw[tr,aJ,Zc]
 by_cases h:lP ds ds.length=0
 ·rw[an h,an (h0.2 h)];split<;>rfl
 ·rw[aj h,aj (fun e=>h (h0.1 e))]
  rfl
theorem kV {ds:List Nat} (h:Dg ds):tr ds=aB (val ds):=by
 induction ds with
 | nil=>rw[val,lh];rfl
 | cons d ds ih=>
  have hd:=(mD.1 h).1;rw[qpj,ih (mD.1 h).2,val]
  by_cases h0:val ds=0
  ·rw[an (EM.2 h0),h0]
   split
   ·subst d;exact lh.symm
   ·rw[yf (by omega),show (d+4294967296 * 0) % 4294967296=d by omega,show (d+4294967296 * 0) / 4294967296=0 by omega,lh]
  ·rw[aj (fun e=>h0 (EM.1 e)),yf (n:=d+4294967296 * val ds) (by omega),show (d+4294967296 * val ds) % 4294967296=d by omega,show (d+4294967296 * val ds) / 4294967296=val ds by omega]
theorem xm {ds:List Nat} (h:Dg ds):val (tr ds)=val ds:=by rw[kV h,gj]
theorem xj (a b:List Nat):val (a++b)=val a+4294967296 ^ a.length * val b:=by
 induction a with
 | nil=>simp[val]
 | cons d a ih=>
  rw[bQ,val,val,ih,aJ,jO,gm,mo,cP (4294967296 ^ a.length) 4294967296,fB]
theorem EN:∀ (l:List Nat) (i v:Nat),i < l.length->val (l.set i v)+4294967296 ^ i * l.getD i 0=val l+4294967296 ^ i * v
 | [],i,v,h=>by simp at h
 | d::l,0,v,h=>by simp[val];omega
 | d::l,i+1,v,h=>by
  have ih:=EN l i v (by simpa using h);simp only[dC,val,xI,jO];rw[cP (4294967296 ^ i) 4294967296,fB,fB];omega
def vs (a:List Nat) (i:Nat):Nat:=val (a.take i)
theorem rI (a:List Nat):vs a 0=0:=rfl
theorem jh {a:List Nat} {i:Nat} (h:a.length<=i):vs a i=val a:=by rw[vs,kY h]
theorem jL (a:List Nat) (i:Nat):vs a (i+1)=vs a i+4294967296 ^ i * a.getD i 0:=by
 by_cases h:i < a.length
 ·rw[vs,n6 h,xj,ji,Nat.min_eq_left (by omega),aT,bA h,vs];simp[val]
 ·rw[jh (by omega),jh (by omega),aT,mQ (by omega)];simp
theorem xn {a:List Nat} (h:Dg a) (i:Nat):vs a i < 4294967296 ^ i:=by
 have h1:=mO (h.take i);refine qU h1 (pO (by omega) ?_);rw[ji];omega
theorem Jv (n:Nat):val (List.replicate n 0)=0:=by
 induction n with
 | zero=>rfl
 | succ n ih=>rw[xM,val,ih]
def mC (a b:List Nat):Nat->Int
 | 0=>0
 | n+1=>if a.getD n 0 < b.getD n 0 then -1 else if a.getD n 0 > b.getD n 0 then 1 else mC a b n
def uN (a b:List Nat):Int:=if a.length < b.length then -1 else if a.length > b.length then 1 else mC a b a.length
def gE (a b:Nat):Int:=if a < b then -1 else if a > b then 1 else 0
theorem TE {a b:List Nat} (ha:Dg a) (hb:Dg b):∀ n,mC a b n=gE (vs a n) (vs b n)
 | 0=>by simp[mC,rI,gE]
 | n+1=>by
  have ih:=TE ha hb n;have h1:=xn ha n;have h2:=xn hb n;rw[mC,jL,jL,ih];generalize 4294967296 ^ n=p at *;generalize a.getD n 0=x;generalize b.getD n 0=y;unfold gE
  by_cases h:x < y
  ·have:p * (x+1)<=p * y:=kE _ h;rw[gm] at this;rw[an h,an (by omega)]
  ·by_cases h':x > y
   ·have:p * (y+1)<=p * x:=kE _ h';rw[gm] at this;rw[aj h,an h',aj (by omega),an (by omega)]
   ·have:x=y:=by omega
    subst this;rw[aj h,aj h'];simp only[Nat.add_lt_add_iff_right,gt_iff_lt]
theorem Hx {n k:Nat} (h:k < (aB n).length):4294967296 ^ k<=n:=by
 apply qk;intro hn;have:=oL (Nat.lt_of_not_le hn);omega
theorem TD (a b:Nat):uN (aB a) (aB b)=gE a b:=by
 have ha:=mO (gd a);have hb:=mO (gd b);rw[gj] at ha hb;unfold uN
 by_cases h:(aB a).length < (aB b).length
 ·have:=Hx h;rw[an h,gE,an (by omega)]
 ·rw[aj h]
  by_cases h':(aB a).length > (aB b).length
  ·have:=Hx h';rw[an h',gE,aj (by omega),an (by omega)]
  ·rw[aj h',TE (gd a) (gd b),jh (aR _),jh (by omega),gj,gj]
theorem qjN {a b:List Nat} (ha:Dg a) (hb:Dg b):uN (tr a) (tr b)=gE (val a) (val b):=by rw[kV ha,kV hb,TD]
def cB (a b:List Nat):Nat->List Nat×Nat
 | 0=>([],0)
 | i+1=>((cB a b i).1++[((cB a b i).2+a.getD i 0+b.getD i 0) % 4294967296],((cB a b i).2+a.getD i 0+b.getD i 0) / 4294967296)
theorem wa (a b:List Nat):∀ i,(cB a b i).1.length=i
 | 0=>rfl
 | i+1=>by simp[cB,wa a b i]
theorem xV {a b:List Nat} (ha:Dg a) (hb:Dg b):∀ i,(cB a b i).2<=1
 | 0=>by simp[cB]
 | i+1=>by
  have:=xV ha hb i;have h1:=ha i;have h2:=hb i;simp only[cB];omega
theorem Lr (a b:List Nat):∀ i,Dg (cB a b i).1
 | 0=>yd
 | i+1=>yc (Lr a b i) (uQ (kf _ (by omega)))
theorem Ls (a b:List Nat):∀ i,val (cB a b i).1+4294967296 ^ i * (cB a b i).2=vs a i+vs b i
 | 0=>by simp[cB,val,rI]
 | i+1=>by
  have ih:=Ls a b i;simp only[cB,xj,wa,val,jL,jO];have h1:=Bu (4294967296 ^ i) 4294967296 ((cB a b i).2+a.getD i 0+b.getD i 0);generalize hs:(cB a b i).2+a.getD i 0+b.getD i 0=s at *;rw[<- hs,gm,gm,hs] at h1;rw[n7,ke];omega
def CX (a b:List Nat):List Nat:=tr ((cB a b a.length).1++[(cB a b a.length).2])
def Ak (a b:List Nat):List Nat:=if a.length < b.length then CX b a else CX a b
theorem SR {a b:List Nat} (ha:Dg a) (hb:Dg b) (h:b.length<=a.length):CX a b=aB (val a+val b):=by
 have hc:=xV ha hb a.length;rw[CX,kV (yc (Lr _ _ _) (uQ (by omega))),xj,wa];have:=Ls a b a.length;rw[jh (aR _),jh h] at this;simp only[val,n7,ke,this]
theorem qgZ {a b:List Nat} (ha:Dg a) (hb:Dg b):Ak a b=aB (val a+val b):=by
 unfold Ak
 split
 ·rw[SR hb ha (by omega),rY]
 ·rw[SR ha hb (by omega)]
theorem qg0 {a b:List Nat} (ha:Dg a) (hb:Dg b):Ak (tr a) (tr b)=aB (val a+val b):=by
 rw[qgZ (ta ha) (ta hb),xm ha,xm hb]
def gP (b:List Nat) (x i:Nat):Nat->List Nat×Nat->List Nat×Nat
 | 0,s=>s
 | k+1,s=>let t:=gP b x i k s
  (t.1.set (i+k) ((t.2+(t.1.getD (i+k) 0+x * b.getD k 0)) % 4294967296),(t.2+(t.1.getD (i+k) 0+x * b.getD k 0)) / 4294967296)
theorem wZ (b:List Nat) (x i:Nat) (s:List Nat×Nat):∀ k,(gP b x i k s).1.length=s.1.length
 | 0=>rfl
 | k+1=>by simp[gP,wZ b x i s k]
theorem Bi {b:List Nat} {x i:Nat} {s:List Nat×Nat} (hb:Dg b) (hx:x < 4294967296) (hs:Dg s.1) (hc:s.2 < 4294967296):∀ k,Dg (gP b x i k s).1/\(gP b x i k s).2 < 4294967296
 | 0=>⟨hs,hc⟩
 | k+1=>by
  obtain ⟨h1,h2⟩:=Bi hb hx hs hc k;have h3:=h1 (i+k);have h4:=hb k;have h5:x * b.getD k 0<=4294967295 * 4294967295:=rZ (by omega) (by omega);refine ⟨h1.set _ _ (kf _ (by omega)),?_⟩;simp only[gP];omega
theorem WY (b:List Nat) (x i:Nat) (s:List Nat×Nat):∀ k,i+k<=s.1.length->val (gP b x i k s).1+4294967296 ^ (i+k) * (gP b x i k s).2=val s.1+4294967296 ^ i * (s.2+x * vs b k)
 | 0,_=>by simp[gP,rI]
 | k+1,h=>by
  have ih:=WY b x i s k (by omega);have hl:=wZ b x i s k;simp only[gP,jL];generalize gP b x i k s=t at *;have h1:=EN t.1 (i+k) ((t.2+(t.1.getD (i+k) 0+x * b.getD k 0)) % 4294967296) (by omega);have h2:=Bu (4294967296 ^ (i+k)) 4294967296 (t.2+(t.1.getD (i+k) 0+x * b.getD k 0))
  have h3:4294967296 ^ i * (s.2+x * (vs b k+4294967296 ^ k * b.getD k 0))=4294967296 ^ i * (s.2+x * vs b k)+4294967296 ^ (i+k) * (x * b.getD k 0):=by
   rw[qX];simp only[gm,mo];congr 2;simp only[<- fB];congr 1;rw[Nat.mul_right_comm]
  rw[h3];generalize hw:t.2+(t.1.getD (i+k) 0+x * b.getD k 0)=w at *;rw[<- hw,gm,gm,hw] at h2;rw[<- mo,jO];omega
def iL (a b:List Nat):Nat->List Nat
 | 0=>List.replicate (a.length+b.length) 0
 | i+1=>(gP b (a.getD i 0) i b.length (iL a b i,0)).1.set (i+b.length) (gP b (a.getD i 0) i b.length (iL a b i,0)).2
def Ef (a b:List Nat):List Nat:=tr (iL a b a.length)
theorem wY (a b:List Nat):∀ i,(iL a b i).length=a.length+b.length
 | 0=>by simp[iL]
 | i+1=>by simp[iL,wZ,wY a b i]
theorem yZ {a b:List Nat} (ha:Dg a) (hb:Dg b):∀ i,Dg (iL a b i)
 | 0=>ye _
 | i+1=>by
  have ih:=yZ ha hb i;obtain ⟨h1,h2⟩:=Bi (i:=i) (s:=(iL a b i,0)) hb (ha i) ih (by simp) b.length;exact h1.set _ _ h2
theorem N7 (b:List Nat) (x i:Nat) (s:List Nat×Nat) (j:Nat):∀ k,i+k<=j->(gP b x i k s).1.getD j 0=s.1.getD j 0
 | 0,_=>rfl
 | k+1,h=>by
  have ih:=N7 b x i s j k (by omega);rw[<- ih];simp only[gP,aT];rw[Gt (by omega)]
theorem WX (a b:List Nat) (j:Nat):∀ i,i+b.length<=j->(iL a b i).getD j 0=0
 | 0,h=>by
  simp only[iL,aT,Aa];split<;>rfl
 | i+1,h=>by
  have ih:=WX a b j i (by omega);rw[iL,uS (by omega),N7 b (a.getD i 0) i (iL a b i,0) j b.length (by omega)];exact ih
theorem N6 (a b:List Nat):∀ i,i<=a.length->val (iL a b i)=vs a i * val b
 | 0,_=>by simp[iL,Jv,rI]
 | i+1,h=>by
  have ih:=N6 a b i (by omega);have hl:=wY a b i;have h1:=WY b (a.getD i 0) i (iL a b i,0) b.length (by simp only[hl];omega)
  have h0:(gP b (a.getD i 0) i b.length (iL a b i,0)).1.getD (i+b.length) 0=0:=by
   rw[N7 _ _ _ _ _ _ (aR _)];exact WX a b _ i (aR _)
  have h2:=EN (gP b (a.getD i 0) i b.length (iL a b i,0)).1 (i+b.length) (gP b (a.getD i 0) i b.length (iL a b i,0)).2 (by rw[wZ];simp only[hl];omega);rw[h0,n7,ke] at h2;rw[iL,h2,h1,ih,jh (aR _),jL,gX,bf,fB]
theorem qmS {a b:List Nat} (ha:Dg a) (hb:Dg b):Ef a b=aB (val a * val b):=by
 rw[Ef,kV (yZ ha hb _),N6 _ _ _ (aR _),jh (aR _)]
theorem qmT {a b:List Nat} (ha:Dg a) (hb:Dg b):Ef (tr a) (tr b)=aB (val a * val b):=by
 rw[qmS (ta ha) (ta hb),xm ha,xm hb]
def gD (a b:List Nat):Nat->List Nat×Nat
 | 0=>(List.replicate a.length 0,0)
 | i+1=>if a.getD i 0 < (gD a b i).2+b.getD i 0 then ((gD a b i).1.set i (a.getD i 0+4294967296 - ((gD a b i).2+b.getD i 0)),1)
  else ((gD a b i).1.set i (a.getD i 0 - ((gD a b i).2+b.getD i 0)),0)
def Jl (a b:List Nat):List Nat:=tr (gD a b a.length).1
theorem BH (a b:List Nat):∀ i,(gD a b i).1.length=a.length
 | 0=>by simp[gD]
 | i+1=>by simp only[gD];split<;>simp[BH a b i]
theorem Jm (a b:List Nat):∀ i,(gD a b i).2<=1
 | 0=>by simp[gD]
 | i+1=>by simp only[gD];split<;>simp
theorem BG {a b:List Nat} (ha:Dg a) (hb:Dg b):∀ i,Dg (gD a b i).1
 | 0=>ye _
 | i+1=>by
  have:=Jm a b i;have h1:=ha i;have h2:=hb i;simp only[gD]
  split
  ·exact (BG ha hb i).set _ _ (by omega)
  ·exact (BG ha hb i).set _ _ (by omega)
theorem YZ (a b:List Nat) (j:Nat):∀ i,i<=j->(gD a b i).1.getD j 0=0
 | 0,_=>by
  simp only[gD,aT,Aa];split<;>rfl
 | i+1,h=>by
  have ih:=YZ a b j i (by omega);simp only[gD];split<;>simp only[]<;>rw[uS (by omega),ih]
theorem Y0 {p x y b v1:Nat} {va vb r:Nat} (ih:r+vb=va+p * b) :
  (x < b+y->b+y<=x+v1->r+p * (x+v1 - (b+y))+(vb+p * y)=va+p * x+p * v1 * 1)/\(¬ x < b+y->r+p * (x - (b+y))+(vb+p * y)=va+p * x+p * v1 * 0):=by
 constructor
 ·intro h h';have e:=XU p v1 x (b+y) h';rw[gm _ b] at e;rw[mq];omega
 ·intro h;have e:=IW p x (b+y) (by omega);rw[gm _ b] at e;rw[n7];omega
theorem qoT {a b:List Nat} (ha:Dg a) (hb:Dg b) (i:Nat):i<=a.length->val (gD a b i).1+vs b i=vs a i+4294967296 ^ i * (gD a b i).2:=by
 induction i with
 | zero=>
  intro _;rw[gD,Jv,rI,rI]
  rfl
 | succ i ih=>
  intro h;have ih:=ih (by omega);have hl:=BH a b i;have h0:=YZ a b i i (aR _);have hc:=Jm a b i;have h1:=ha i;have h2:=hb i;rw[jL,jL,jO,gD];obtain ⟨s1,s2⟩:=Y0 (x:=a.getD i 0) (y:=b.getD i 0) (v1:=4294967296) ih
  have hs:∀ v,val ((gD a b i).1.set i v)=val (gD a b i).1+4294967296 ^ i * v:=by
   intro v;have:=EN (gD a b i).1 i v (by omega)
   rwa [h0,n7,ke] at this
  split
  ·rename_i hlt;rw[hs];exact s1 hlt (by omega)
  ·rename_i hlt;rw[hs];exact s2 hlt
theorem Zu (a:List Nat) (i:Nat):∀ k,vs a i<=vs a (i+k)
 | 0=>aR _
 | k+1=>by rw[<- mo,jL];exact fA (Zu a i k) (Nat.le_add_right _ _)
theorem Zt (a:List Nat) (i:Nat):vs a i<=val a:=by
 have:=Zu a i a.length
 rwa [jh (by omega:a.length<=i+a.length)] at this
theorem Zs {a b:List Nat} (ha:Dg a) (h:val b<=val a):vs b a.length=val b:=by
 have h1:=mO ha;apply qk;intro hn;have hlt:vs b a.length < val b:=Nat.lt_of_le_of_ne (Zt _ _) hn
 have:∀ k,vs b a.length < vs b (a.length+k)->4294967296 ^ a.length<=vs b (a.length+k):=by
  intro k
  induction k with
  | zero=>intro h;exact absurd h (vT _)
  | succ k ih=>
   intro hk;rw[<- mo,jL] at hk ⊢
   by_cases h0:vs b a.length < vs b (a.length+k)
   ·exact fA (ih h0) (Nat.le_add_right _ _)
   ·have:b.getD (a.length+k) 0≠0:=by
     intro e;rw[e] at hk;omega
    have h3:4294967296 ^ a.length<=4294967296 ^ (a.length+k):=pO (by omega) (by omega);have h4:4294967296 ^ (a.length+k) * 1<=4294967296 ^ (a.length+k) * b.getD (a.length+k) 0:=kE _ (by omega);omega
 have:=this b.length (by rwa [jh (by omega:b.length<=a.length+b.length)]);rw[jh (by omega:b.length<=a.length+b.length)] at this;omega
theorem qoR {a b:List Nat} (ha:Dg a) (hb:Dg b) (h:val b<=val a):Jl a b=aB (val a - val b):=by
 rw[Jl,kV (BG ha hb _)];have h1:=qoT ha hb a.length (aR _);rw[jh (aR _),Zs ha h] at h1;have h2:=mO (BG ha hb a.length);rw[BH] at h2;have h3:=mO ha;have hc:=Jm a b a.length;congr 1
 have:(gD a b a.length).2=0:=by
  apply qk;intro hn;have e:(gD a b a.length).2=1:=by omega
  rw[e,mq] at h1;omega
 rw[this,n7,ke] at h1;omega
theorem qoS {a b:List Nat} (ha:Dg a) (hb:Dg b) (h:val b<=val a):Jl (tr a) (tr b)=aB (val a - val b):=by
 rw[qoR (ta ha) (ta hb) (by rwa [xm ha,xm hb]),xm ha,xm hb]
end Go.Ab
namespace Go.Ab
section
variable {tk:TK} {k k':IntKind} {a b:Nat}
theorem Bj:ag tk .gtr (.int k a) (.int k b)=some (.bool (decide (a > b))):=by rw[hJ];congr 2;exact jD.2 (by omega)
theorem dp:ag tk .lss (.int k a) (.int k b)=some (.bool (decide (a < b))):=by rw[bg];congr 2;exact jD.2 (by omega)
theorem IG:ag tk .geq (.int k a) (.int k b)=some (.bool (decide (a≥b))):=by rw[kF];congr 2;exact jD.2 (by omega)
theorem Eg:ag tk .eql (.int k a) (.int k b)=some (.bool (decide (a=b))):=by rw[ir];congr 2;exact jD.2 (by omega)
theorem N9:ag tk .neq (.int k a) (.int k b)=some (.bool (decide (a≠b))):=by rw[iY];congr 2;exact jD.2 (by omega)
theorem vx:ag tk .gtr (.int k a) (.int k 0)=some (.bool (decide (a > 0))):=Bj (b:=0)
theorem Eh:ag tk .geq (.int k a) (.int k 0)=some (.bool true):=by rw[kF];congr 2
theorem N8:ag tk .lss (.int k a) (.int k 0)=some (.bool false):=by rw[bg];congr 2
theorem me:ag tk .eql (.int k a) (.int k 0)=some (.bool (decide (a=0))):=Eg (b:=0)
theorem W6:ag tk .neq (.int k a) (.int k 0)=some (.bool (decide (a≠0))):=N9 (b:=0)
theorem vw:ag tk .eql (.int k a) (.int k 1)=some (.bool (decide (a=1))):=Eg (b:=1)
theorem W0:ag tk .eql (.int k a) (.int k 2)=some (.bool (decide (a=2))):=Eg (b:=2)
theorem qmV:ag tk .geq (.int k a) (.int k 4294967296)=some (.bool (decide (a≥4294967296))):=IG (b:=4294967296)
theorem IH:ag tk .lss (.int k a) (.int k 4294967296)=some (.bool (decide (a < 4294967296))):=dp (b:=4294967296)
theorem nR (h:a+b < 18446744073709551616):ag tk .add (.int .u64 a) (.int .u64 b)=some (.int .u64 (a+b:Nat)):=by
 rw[kQ,jn (by omega) (by omega)];rfl
theorem EC (h:a * b < 18446744073709551616):ag tk .mul (.int .u64 a) (.int .u64 b)=some (.int .u64 (a * b:Nat)):=by
 rw[we,<- rQ,jn (by omega) (by omega)]
theorem zp (h:b<=a) (h':a < 18446744073709551616):ag tk .sub (.int .u64 a) (.int .u64 b)=some (.int .u64 (a - b:Nat)):=by
 rw[pv,jn (by omega) (by omega)];congr 2;omega
theorem Jr (h:1<=a) (h':a < 18446744073709551616):ag tk .sub (.int .u64 a) (.int .u64 1)=some (.int .u64 (a - 1:Nat)):=zp (b:=1) h h'
theorem zn (h:b≠0) (h':a < 18446744073709551616):ag tk .quo (.int .u64 a) (.int .u64 b)=some (.int .u64 (a / b:Nat)):=by
 have e:ag tk .quo (.int .u64 a) (.int .u64 b)=if (b:Int)=0 then none else some (.int .u64 (IntKind.wrap .u64 ((a:Int).tdiv b))):=by cases tk<;>rfl
 rw[e,aj (by omega)];have e2:(a:Int).tdiv b=((a / b:Nat):Int):=rfl;have:=Af a b;rw[e2];generalize a / b=q at *;rw[jn (by omega) (by omega)]
theorem BK (h:b≠0) (h':a < 18446744073709551616):ag tk .rem (.int .u64 a) (.int .u64 b)=some (.int .u64 (a % b:Nat)):=by
 have e:ag tk .rem (.int .u64 a) (.int .u64 b)=if (b:Int)=0 then none else some (.int .u64 ((a:Int).tmod b)):=by cases tk<;>rfl
 rw[e,aj (by omega)]
 rfl
theorem qpv (h':a < 18446744073709551616):ag tk .and (.int .u64 a) (.int .u64 4294967295)=some (.int .u64 (a % 4294967296:Nat)):=by
 have e:ag tk .and (.int .u64 a) (.int .u64 4294967295)=some (.int .u64 (IntKind.wrap .u64 ((BitVec.ofInt 64 a &&& BitVec.ofInt 64 4294967295).toNat:Nat))):=by cases tk<;>rfl
 have e2:(BitVec.ofInt 64 (a:Int) &&& BitVec.ofInt 64 4294967295).toNat=a % 4294967296:=by
  rw[BitVec.toNat_and,xu,xu];have h1:(((a:Nat):Int) % ((2 ^ 64:Nat):Int)).toNat=a:=by omega
  have h2:((4294967295:Int) % ((2 ^ 64:Nat):Int)).toNat=2 ^ 32 - 1:=by omega
  rw[h1,h2,Nat.and_two_pow_sub_one_eq_mod]
 rw[e,e2,jn (by omega) (by omega)]
theorem EE (h:a < 4294967296):ag tk .shl (.int .u64 a) (.int k' 32)=some (.int .u64 (a * 4294967296:Nat)):=Tb tk k' a h
theorem Jq:ag tk .shr (.int .u64 a) (.int k' 32)=some (.int .u64 (a / 4294967296:Nat)):=by
 rw[C2 tk k' a (by omega)];rfl
theorem ED (h:a < 4294967296) (h':b < 4294967296):ag tk .or (.int .u64 (a * 4294967296:Nat)) (.int .u64 b)=some (.int .u64 (a * 4294967296+b:Nat)):=by
 have e:ag tk .or (.int .u64 (a * 4294967296:Nat)) (.int .u64 b)=some (.int .u64 (IntKind.wrap .u64 ((BitVec.ofInt 64 (a * 4294967296:Nat) ||| BitVec.ofInt 64 b).toNat:Nat))):=by cases tk<;>rfl
 have e2:(BitVec.ofInt 64 ((a * 4294967296:Nat):Int) ||| BitVec.ofInt 64 (b:Int)).toNat=a * 4294967296+b:=by
  rw[BitVec.toNat_or,xu,xu];have h1:(((b:Nat):Int) % ((2 ^ 64:Nat):Int)).toNat=b:=by omega
  have h2:(((a * 4294967296:Nat):Int) % ((2 ^ 64:Nat):Int)).toNat=a * 4294967296:=by omega
  rw[h1,h2];have:=Nat.two_pow_add_eq_or_of_lt (i:=32) (b:=b) (by omega) a;rw[show a * 4294967296=2 ^ 32 * a by omega,<- this]
 rw[e,e2,jn (by omega) (by omega)]
theorem kM (h:a+b < 9223372036854775808):ag tk .add (.int .i64 a) (.int .i64 b)=some (.int .i64 (a+b:Nat)):=by
 rw[kQ,iK (by omega) (by omega)];rfl
theorem cG (h:a+1 < 9223372036854775808):ag tk .add (.int .i64 a) (.int .i64 1)=some (.int .i64 (a+1:Nat)):=kM (b:=1) h
theorem nc (h:b<=a) (h':a < 9223372036854775808):ag tk .sub (.int .i64 a) (.int .i64 b)=some (.int .i64 (a - b:Nat)):=by
 rw[pv,iK (by omega) (by omega)];congr 2;omega
theorem oC (h:1<=a) (h':a < 9223372036854775808):ag tk .sub (.int .i64 a) (.int .i64 1)=some (.int .i64 (a - 1:Nat)):=nc (b:=1) h h'
theorem VJ (h:2<=a) (h':a < 9223372036854775808):ag tk .sub (.int .i64 a) (.int .i64 2)=some (.int .i64 (a - 2:Nat)):=nc (b:=2) h h'
theorem tY (h':a < 9223372036854775808):ag tk .sub (.int .i64 a) (.int .i64 1)=some (.int .i64 ((a:Int) - 1)):=by
 rw[pv,iK (by omega) (by omega)]
theorem C7 (h:a < 18446744073709551616):bm .u64 (.int k a)=some (.int .u64 a):=by rw[lR,jn (by omega) (by omega)]
theorem mz:bm .u32 (.int k a)=some (.int .u32 (a % 4294967296:Nat)):=by rw[lR,xp];rfl
theorem my (d:Nat) (h:d < 4294967296):bm .u64 (dg d)=some (.int .u64 d):=C7 (by omega)
theorem Zh {s:Nat} (hs:s < 32) (h:a < 4294967296):ag tk .shl (.int .u32 a) (.int .u64 s)=some (.int .u32 (a * 2 ^ s % 4294967296:Nat)):=by
 have e:ag tk .shl (.int .u32 a) (.int .u64 s)=s6 true .u32 a s:=by cases tk<;>rfl
 have e3:IntKind.bits .u32=32:=rfl;rw[e,s6,aj (by omega),an rfl,e3,cK,Nat.min_eq_left (by omega),xp];congr 2
theorem Pe {s:Nat} (hs:s < 32):ag tk .shr (.int .u32 a) (.int .u64 s)=some (.int .u32 (a / 2 ^ s:Nat)):=by
 have e:ag tk .shr (.int .u32 a) (.int .u64 s)=s6 false .u32 a s:=by cases tk<;>rfl
 have e3:IntKind.bits .u32=32:=rfl;rw[e,s6,aj (by omega),aj (by decide),e3,cK,Nat.min_eq_left (by omega),Int.fdiv_eq_ediv_of_nonneg _ (by exact Int.le_of_lt (Int.pow_pos (by omega)))];congr 2
theorem qpu {s:Nat} (hs:s < 32) (h:a < 4294967296):ag tk .shl (.int .u64 a) (.int .u64 s)=some (.int .u64 (a * 2 ^ s:Nat)):=by
 have e:ag tk .shl (.int .u64 a) (.int .u64 s)=s6 true .u64 a s:=by cases tk<;>rfl
 have e3:IntKind.bits .u64=64:=rfl;have h1:2 ^ s<=2 ^ 31:=pO (by omega) (by omega);have h2:a * 2 ^ s<=a * 2 ^ 31:=kE _ h1;have h3:(a:Int) * 2 ^ s=((a * 2 ^ s:Nat):Int):=by rw[rQ,Int.natCast_pow];rfl
 rw[e,s6,aj (by omega),an rfl,e3,cK,Nat.min_eq_left (by omega),h3,jn (by omega) (by omega)]
theorem qnm {x y s:Nat} (h:x < 2 ^ s) (hy:y % 2 ^ s=0):x ||| y=x+y:=by
 have e:y=2 ^ s * (y / 2 ^ s):=by have:=vR y (2 ^ s);omega
 rw[e,Nat.or_comm,<- Nat.two_pow_add_eq_or_of_lt h,rY]
theorem Zg {s:Nat} (h:a < 2 ^ s) (hb:b % 2 ^ s=0) (hs:a+b < 4294967296):ag tk .or (.int .u32 a) (.int .u32 b)=some (.int .u32 (a+b:Nat)):=by
 have e:ag tk .or (.int .u32 a) (.int .u32 b)=some (.int .u32 (IntKind.wrap .u32 ((BitVec.ofInt 32 a ||| BitVec.ofInt 32 b).toNat:Nat))):=by cases tk<;>rfl
 have e2:(BitVec.ofInt 32 (a:Int) ||| BitVec.ofInt 32 (b:Int)).toNat=a+b:=by
  rw[BitVec.toNat_or,xu,xu];have h1:(((a:Nat):Int) % ((2 ^ 32:Nat):Int)).toNat=a:=by omega
  have h2:(((b:Nat):Int) % ((2 ^ 32:Nat):Int)).toNat=b:=by omega
  rw[h1,h2,qnm h hb]
 rw[e,e2,zx (by omega) (by omega)]
theorem qpr:ag tk .add (.int .u32 a) (.int .u32 b)=some (.int .u32 ((a+b) % 4294967296:Nat)):=by
 rw[kQ,xp];rfl
end
theorem ma {x:NV} {k:IntKind} {i:Nat} (h:i < x.ds.length):aG none x.av (.int k i)=some (.vptr [dg (x.ds.getD i 0)]):=by
 rw[NV.av,ua (by omega) (by omega)];simp
theorem Ip {x:NV} {k:IntKind} (h:0 < x.ds.length):aG none x.av (.int k 0)=some (.vptr [dg (x.ds.getD 0 0)]):=ma (i:=0) h
theorem gZ (x:NV):aK false x.av=some (.int .i64 x.ds.length):=by simp[NV.av,aK]
theorem kA {m:af} {x:AV}:ai none m (.vptr [x])=some x:=rfl
def oc (ds:List Nat):Option Ent:=some (.obj false (ds.map dg))
theorem On {m:af} {n:Nat} {ds:List Nat} (h:m[n]?=some (oc ds)):m.obj? n=some (false,ds.map dg):=by
 simp[af.obj?,af.get,h,oc]
theorem sS {m:af} {n:Nat} {ds:List Nat} {i:Nat} (h:m[n]?=some (oc ds)) (hi:i < ds.length):ai none m (.ptr n i)=some (dg (ds.getD i 0)):=by
 simp[ai,On h,ki,aT,hi]
theorem pa {m:af} {n:Nat} {ds:List Nat} {i v:Nat} (h:m[n]?=some (oc ds)) (hi:i < ds.length):aN none m (.ptr n i) (.int .u32 v)=some (m.set n (oc (ds.set i v))):=by
 have h1:i+1<=ds.length:=hi;simp only[aN,On h,aa,Sh.size,bU,h1,bq,cZ,ff,AV.cells,oc];congr 4;simp only[bC,aJ,aM];rw[List.map_set,CA];simp[hi,dg,xL,List.map_drop]
theorem wX {e b:Nat} {m:af} {n:Nat} (h':n * b<=281474976710656) (h2:n<=9223372036854775807):iV none e none (.int .u32 0) b m (.int .i64 n) (.int .i64 n)=some (.arr m.length 0 n none,m++[oc (List.replicate n 0)]):=WE h' h2
theorem qms (nm n:Nat):aK false (.arr nm 0 n none)=some (.int .i64 n):=rfl
theorem qkp {m:af} {nm:Nat} {ds:List Nat} (h:m[nm]?=some (oc ds)):bH m km (.arr nm 0 ds.length none)=some (.lst none false .no (ds.map dg),[nm]):=by
 have h1:((ds.map dg).all ff)=true:=by simp[List.all_map,dg,ff]
 show (m.obj? nm).bind _=_;rw[On h];simp only[aa,Sh.size,bU,bf,mq,aR,decide_true,nT,pg,bq,jT,kY (by simp:(ds.map dg).length<=ds.length)];rw[NY];simp only[aa,h1,OA,pg,bq,lW];rw[kY (by simp)]
theorem w0 {cp:Nat->List AV->Option AV} {m:af} {g nm:Nat} {ds:List Nat} (h:m[nm]?=some (oc ds)):aD cp none m g [.arr nm 0 ds.length none]=(cp g [(NV.mk false .no ds).av]).map fun v=>(v,m.set nm none):=by
 simp only[aD,fD,qkp h,aa,jm,Option.isSome_none,lQ,bP,ux,List.foldl_nil]
 rfl
end Go.Ab
namespace Go.Ab
open Go.Proofs
theorem cn {m:af} {e:Option Ent} {nm:Nat} (h:nm < m.length):af.get (m++[e]) nm=m.get nm:=by
 rw[Ml,an h]
theorem bV {m:af} {e:Option Ent} {nm:Nat} (h:nm=m.length):af.get (m++[e]) nm=e:=by
 subst h;simp[af.get]
theorem cF {m:af} {k nm:Nat} {e:Option Ent} (h:nm≠k):af.get (m.set k e) nm=m.get nm:=by rw[gC,aj h]
theorem dM {m:af} {k nm:Nat} {e:Option Ent} (h:nm=k) (hk:k < m.length):af.get (m.set k e) nm=e:=by
 subst h;rw[gC,an rfl,an hk]
def Bo:Option Ent->Option (Bool×List AV)
 | some (.obj b cs)=>some (b,cs)
 | _=>none
theorem j7 (b:Bool) (cs:List AV):Bo (some (.obj b cs))=some (b,cs):=rfl
theorem p9 (m:af) (nm:Nat):m.obj? nm=Bo (m.get nm):=by
 unfold af.obj? Bo
 cases h:m.get nm with
 | none=>rfl
 | some e=>cases e<;>rfl
theorem eY (sh:Sh) (m:af) (nm off:Nat):ai sh m (.ptr nm off)=(Bo (m.get nm)).bind fun o=>ki sh o.2 off:=by
 rw[<- p9];rfl
def cO (sh:Sh) (m:af) (nm off:Nat) (v:AV) (o:Bool×List AV):Option af:=
 if off+sh.size<=o.2.length then if cZ sh v then some (m.set nm (some (.obj o.1 (bC o.2 off v.cells)))) else none else none
theorem qh (sh:Sh) (m:af) (nm off:Nat) (v:AV):aN sh m (.ptr nm off) v=(Bo (m.get nm)).bind (cO sh m nm off v):=by
 rw[<- p9];rfl
theorem uP (cs:List AV) (off:Nat):ki none cs off=cs[off]?:=rfl
theorem TI (a b c:AV):ki (some 3) [a,b,c] 0=some (.agg [a,b,c]):=rfl
theorem TJ (a b c d:AV):ki (some 4) [a,b,c,d] 0=some (.agg [a,b,c,d]):=rfl
theorem oY (nm off:Nat):iD (.ptr nm off)=some (.ptr nm off):=rfl
theorem gg (o nm off:Nat):aS o (.ptr nm off)=some (.ptr nm (off+o)):=rfl
theorem bs {α β:Type} {x:Option α} {v:α} {f:α->Option β} {r:Option β} (h:x=some v) (k:f v=r):x.bind f=r:=by rw[h];exact k
theorem eX {α:Type} {x:Option α} {v:α} {f:α->OM} (h:x=some v) (k:∃ m',f v=some (.bool true,m')):∃ m',x.bind f=some (.bool true,m'):=by rw[h];exact k
theorem rj (v w:AV):ba (.tup [v,w]) 0=some v:=rfl
theorem rl (v w:AV):ba (.tup [v,w]) 1=some w:=rfl
structure Fr (m m':af) (F:List Nat):Prop where
 len:m.length<=m'.length
 get:∀ x,x < m.length->x∉F->m'.get x=m.get x
theorem Fr.refl (m:af) (F:List Nat):Fr m m F:=⟨aR _,fun _ _ _=>rfl⟩
theorem Fr.trans {m m1 m2:af} {F F1:List Nat} (h:Fr m m1 F) (k:Fr m1 m2 F1) (hF:∀ x∈F1,x∈F\/m.length<=x):Fr m m2 F:=
 ⟨fA h.len k.len,fun x hx hn=>(k.get x (qU hx h.len) fun h1=>by rcases hF x h1 with h2 | h2<;>first | exact hn h2 | omega).trans (h.get x hx hn)⟩
theorem Fr.mono {m m':af} {F F':List Nat} (h:Fr m m' F) (hs:∀ x∈F,x∈F'):Fr m m' F':=⟨h.len,fun x hx hn=>h.get x hx fun h'=>hn (hs x h')⟩
theorem Fr.app (m:af) (e:Option Ent) (F:List Nat):Fr m (m++[e]) F:=⟨by simp,fun x hx _=>cn hx⟩
theorem Fr.snoc {m m':af} {F:List Nat} (h:Fr m m' F) (e:Option Ent):Fr m (m'++[e]) F:=h.trans (Fr.app m' e []) (fun _ h=>by cases h)
theorem Fr.set {m m':af} {F:List Nat} (h:Fr m m' F) {k:Nat} (e:Option Ent) (hk:k∈F\/m.length<=k):Fr m (m'.set k e) F:=
 ⟨by rw[aZ];exact h.len,fun x hx hn=>by
  rw[cF (by rintro rfl;rcases hk with hk | hk;exact hn hk;omega)];exact h.get x hx hn⟩
def fc (n:ND):AV:=if n.var < 0 then au else .lst none false .no (n.kids.map (AV.int .i64))
def ND.av (n:ND):AV:=.agg [.int .i64 n.var,fc n,.int .i64 n.leaf]
def lV:Nat->List ND->List (AV×AV)
 | _,[]=>[]
 | k,n::l=>(.str ⟨n.key.toArray⟩,.int .i64 k)::lV (k+1) l
theorem qmf {a b:ND} (ha:a.ok) (hb:b.ok):jc (.str ⟨a.key.toArray⟩) (.str ⟨b.key.toArray⟩)=decide (a=b):=by
 simp only[jc,uK];refine jD.2 ⟨fun h=>qmg ha hb ?_,fun h=>by rw[h]⟩;have:=dc (fun s:ByteArray=>s.data.toList) h;simpa using this
theorem Mb {n:ND} (hn:n.ok):∀ (l:List ND) (k:Nat),(∀ x∈l,x.ok)->(lV k l).find? (fun p=>jc p.1 (.str ⟨n.key.toArray⟩))=if n∈l then some (.str ⟨n.key.toArray⟩,.int .i64 (k+l.idxOf n:Nat)) else none
 | [],k,_=>rfl
 | x::l,k,h=>by
  rw[lV,List.find?_cons,qmf (h x fJ) hn]
  by_cases he:x=n
  ·subst he;simp
  ·rw[dk he];simp only[];rw[Mb hn l (k+1) fun y hy=>h y (fI _ hy)];have:n∈x::l↔n∈l:=⟨fun h=>(gB.1 h).resolve_left (fun e=>he e.symm),fI _⟩
   by_cases hm:n∈l
   ·rw[an hm,an (this.2 hm),List.idxOf_cons,cond_eq_ite,aj (by simpa using he)];congr 3;omega
   ·rw[aj hm,aj (fun h=>hm (this.1 h))]
theorem TR (n:ND):∀ (l:List ND) (k:Nat),lV k (l++[n])=lV k l++[(.str ⟨n.key.toArray⟩,.int .i64 (k+l.length:Nat))]
 | [],k=>rfl
 | x::l,k=>by
  rw[bQ,lV,lV,TR n l (k+1)];simp only[bQ,aJ];congr 5;omega
theorem TS:∀ (l:List ND) (k:Nat),(lV k l).length=l.length
 | [],_=>rfl
 | _::l,k=>by rw[lV,aJ,TS l,aJ]
theorem qmh {n:ND} (h:n.ok):n.key.length<=10000:=by
 rcases h with ⟨h1,h2,h3,h4⟩ | ⟨h1,h2,h3,h4,h5⟩
 ·unfold ND.key Yd.nameB;rw[h1,an (by decide)];have:=Yd.itoa_len (n:=n.leaf) ⟨by omega,by omega⟩;simp;omega
 ·have:=Yd.part_len (var:=n.var) (ks:=n.kids) ⟨by omega,by omega⟩ (fun k hk=>by have:=h4 k hk;constructor<;>omega) n.kids.length (aR _);unfold Yd.part at this;rw[List.take_length] at this;unfold ND.key Yd.nameB;rw[aj (by omega)];omega
theorem VY {n:ND} (h:n.ok):(⟨n.key.toArray⟩:ByteArray).size<=maxLen:=by
 have:=qmh h;simp only[ByteArray.size,List.size_toArray,maxLen];omega
theorem Wx {m:af} {p:Nat} {l:List ND} {n:ND} (hp:m.get p=some (.mp .str (lV 0 l))) (hl:∀ x∈l,x.ok) (hn:n.ok) (z:AV) :
  oX .str z m (.mref p) (.str ⟨n.key.toArray⟩)=some (if n∈l then (.int .i64 (l.idxOf n:Nat),true) else (z,false)):=by
 have h1:mc m .str (.mref p)=some (p,lV 0 l):=by simp[mc,hp]
 have h2:jQ .str (.str ⟨n.key.toArray⟩)=true:=eT (VY hn);unfold oX;rw[h1];simp only[aa,h2,bq,Bg,Mb hn l 0 hl]
 by_cases hm:n∈l
 ·rw[an hm,an hm];simp
 ·rw[aj hm,aj hm]
theorem qpA {m:af} {p:Nat} {l:List ND} {n:ND} (hp:m.get p=some (.mp .str (lV 0 l))) (hl:∀ x∈l,x.ok) (hn:n.ok) (hne:n∉l) (hlen:l.length < 100000) :
  kO .str m (.mref p) (.str ⟨n.key.toArray⟩) (.int .i64 l.length)=some (m.set p (some (.mp .str (lV 0 (l++[n]))))):=by
 have h1:mc m .str (.mref p)=some (p,lV 0 l):=by simp[mc,hp]
 have h2:jQ .str (.str ⟨n.key.toArray⟩)=true:=eT (VY hn)
 have h3:(lV 0 l).any (fun p=>jc p.1 (.str ⟨n.key.toArray⟩))=false:=by
  have:=Mb hn l 0 hl;rw[aj hne,List.find?_eq_none] at this;rw[List.any_eq_false];exact this
 unfold kO;rw[h1,aa,an ⟨h2,rfl,by rw[TS];unfold maxLen;omega⟩,TR];simp only[nK,h3,bf]
inductive NA (m:af):AV->List ND->List Nat->Prop
 | none:NA m au [] []
 | some (t:Nat) (l:List ND) (ht:m.get t=some (.tok l.length 3)):NA m (.lst (some 3) false (.tok t 74) (l.map ND.av)) l [t]
structure SAt (m:af) (s p:Nat) (arms na:AV) (most:Int) (l:List ND) (T:List Nat):Prop where
 hs:m.get s=some (.obj true [arms,na,.mref p,.int .i64 most])
 hp:m.get p=some (.mp .str (lV 0 l))
 hn:NA m na l T
 ok:∀ x∈l,x.ok
 ne:s≠p
 hT:∀ t∈T,t≠s/\t≠p
end Go.Ab
namespace Go.Ab
open Go.Proofs Go.Proofs.Tryz
theorem nG (m:af) (e:Ent):aA none m e=(m.length,m++[some e]):=rfl
theorem Th {sh:Sh} {m:af} {v:AV} (h:cZ sh v=true):eR none sh m v=some (.ptr m.length 0,m++[some (Ent.obj true v.cells)]):=by
 unfold eR;rw[an h];rfl
theorem uL (k:IntKind) (n:Int) (m:af):eR none none m (.int k n)=some (.ptr m.length 0,m++[some (Ent.obj true [.int k n])]):=rfl
theorem pS (nm o:Nat) (m:af):eR none none m (.ptr nm o)=some (.ptr m.length 0,m++[some (Ent.obj true [.ptr nm o])]):=rfl
theorem An (a b:Int) (z:Bool) (o:Own) (ks:List AV) (m:af):eR none (some 3) m (.agg [.int .i64 a,.lst none z o ks,.int .i64 b])=some (.ptr m.length 0,m++[some (Ent.obj true [.int .i64 a,.lst none z o ks,.int .i64 b])]):=rfl
theorem gK (m:af):dG m 1=m++[some Ent.resv]:=rfl
theorem qM (b:Bool):jg .not (.bool b)=some (.bool (!b)):=rfl
theorem yX (m:af) (a b c:AV):ai (some 3) m (.vptr [a,b,c])=some (.agg [a,b,c]):=rfl
theorem Wb (m:af) (a b c:AV):ai none m (.vptr [a,b,c])=some a:=rfl
theorem Tp (k:IntKind) (n:Int):AV.cells (.int k n)=[.int k n]:=rfl
theorem Lu (k:IntKind) (n:Int):ff (.int k n)=true:=rfl
theorem Tn (b:Bool):AV.cells (.bool b)=[.bool b]:=rfl
theorem SY (b:Bool):ff (.bool b)=true:=rfl
theorem Tu (s:ByteArray):AV.cells (.str s)=[.str s]:=rfl
theorem S7 (s:ByteArray):ff (.str s)=true:=rfl
theorem Tq (sh:Sh) (z:Bool) (o:Own) (es:List AV):AV.cells (.lst sh z o es)=[.lst sh z o es]:=rfl
theorem S0 (sh:Sh) (z:Bool) (o:Own) (es:List AV):ff (.lst sh z o es)=true:=rfl
theorem Tt (nm off:Nat):AV.cells (.ptr nm off)=[.ptr nm off]:=rfl
theorem S6 (nm off:Nat):ff (.ptr nm off)=true:=rfl
theorem Tm (nm off n:Nat) (sh:Sh):AV.cells (.arr nm off n sh)=[.arr nm off n sh]:=rfl
theorem SX (nm off n:Nat) (sh:Sh):ff (.arr nm off n sh)=true:=rfl
theorem To (f:Nat) (cs:List AV):AV.cells (.fn f cs)=[.fn f cs]:=rfl
theorem SZ (f:Nat) (cs:List AV):ff (.fn f cs)=true:=rfl
theorem Tr (nm:Nat):AV.cells (.mref nm)=[.mref nm]:=rfl
theorem S4 (nm:Nat):ff (.mref nm)=true:=rfl
theorem Ts:AV.cells .nilp=[.nilp]:=rfl
theorem S5:ff .nilp=true:=rfl
theorem Tl (cs:List AV):AV.cells (.agg cs)=cs:=rfl
theorem YH (v:AV):cZ none v=ff v:=rfl
theorem YI (n:Nat) (cs:List AV):cZ (some n) (.agg cs)=(cs.length == n && cs.all ff):=rfl
theorem eW:type_of% @nX/\type_of% @List.all_nil.{0}/\type_of% @Bool.and_true/\type_of% @pg/\type_of% @gK/\type_of% @bU/\type_of% @yX/\type_of% @Wb/\type_of% @ir/\type_of% @iY/\type_of% @bg/\type_of% @sg/\type_of% @hJ/\type_of% @kF/\type_of% @gz/\type_of% @qM/\type_of% @eY/\type_of% @qh/\type_of% @j7/\type_of% @uP/\type_of% @TI/\type_of% @TJ/\type_of% @oY/\type_of% @gg/\type_of% @cn/\type_of% @bV/\type_of% @cF/\type_of% @dM/\type_of% @nG/\type_of% @Th/\type_of% @List.getElem?_cons_zero.{0}/\type_of% @List.getElem?_cons_succ.{0}/\type_of% @rj/\type_of% @rl/\type_of% @Tp/\type_of% @Lu/\type_of% @Tn/\type_of% @SY/\type_of% @Tu/\type_of% @S7/\type_of% @Tq/\type_of% @S0/\type_of% @Tt/\type_of% @S6/\type_of% @Tm/\type_of% @SX/\type_of% @To/\type_of% @SZ/\type_of% @Tr/\type_of% @S4/\type_of% @Ts/\type_of% @S5/\type_of% @Tl/\type_of% @YH/\type_of% @YI/\type_of% @oW/\type_of% @aJ/\type_of% @aM/\type_of% @List.take_succ_cons.{0}/\type_of% @List.take_zero.{0}/\type_of% @List.drop_succ_cons.{0}/\type_of% @jT/\type_of% @bQ/\type_of% @bE/\type_of% @bP/\type_of% @bf/\type_of% @List.drop_nil.{0}/\type_of% @List.take_nil.{0}/\type_of% @aI/\type_of% @aZ:=⟨@nX,@List.all_nil.{0},@Bool.and_true,@pg,@gK,@bU,@yX,@Wb,@ir,@iY,@bg,@sg,@hJ,@kF,@gz,@qM,@eY,@qh,@j7,@uP,@TI,@TJ,@oY,@gg,@cn,@bV,@cF,@dM,@nG,@Th,@List.getElem?_cons_zero.{0},@List.getElem?_cons_succ.{0},@rj,@rl,@Tp,@Lu,@Tn,@SY,@Tu,@S7,@Tq,@S0,@Tt,@S6,@Tm,@SX,@To,@SZ,@Tr,@S4,@Ts,@S5,@Tl,@YH,@YI,@oW,@aJ,@aM,@List.take_succ_cons.{0},@List.take_zero.{0},@List.drop_succ_cons.{0},@jT,@bQ,@bE,@bP,@bf,@List.drop_nil.{0},@List.take_nil.{0},@aI,@aZ⟩
theorem ig {R:Type} (x y:Option R):aw (.bool false) x y=y:=rfl
theorem mJ {R:Type} (x y:Option R):aw (.bool true) x y=x:=rfl
theorem qnQ {m:af} {s p:Nat} {arms na:AV} {most:Int} {l:List ND} {T:List Nat} (h:SAt m s p arms na most l T) {n:ND} (hn:n.ok) (hm:n∈l) (z:Bool) (o:Own) :
  AC ae 139 [.ptr s 0,.agg [.int .i64 n.var,.lst none z o (n.kids.map (AV.int .i64)),.int .i64 n.leaf]] m=some (.int .i64 (l.idxOf n:Nat),m++[some (Ent.obj true [.int .i64 n.var,.lst none z o (n.kids.map (AV.int .i64)),.int .i64 n.leaf])]):=by
 have hs:=h.hs;have hp:=h.hp;have mG:=bJ hs;have hpl:=bJ hp;have Nd:af.get (m++[some (Ent.obj true [.int .i64 n.var,.lst none z o (n.kids.map (AV.int .i64)),.int .i64 n.leaf])]) p=some (Ent.mp .str (lV 0 l)):=by rw[cn hpl];exact hp
 have nm:=Xa hn z o;have lk:=Wx Nd h.ok hn (.int .i64 0);rw[an hm] at lk;rw[Le]
 repeat ((with_reducible (first | apply bs | apply eX));(focus (first | (simp (disch:=(first | assumption | omega | (simp only[aI,aZ,aJ,aM];first | done | omega))) only[eW,beq_self_eq_true,cO,aa,Sh.size,bq,bC,Nat.reduceAdd,Nat.reduceLeDiff,aR,hs,An,nm,lk];first | done | rfl) | rfl));try dsimp only)
 rw[mJ]
theorem Hl (a b:Int) (z:Bool) (o:Own) (ks:List AV):fh (some 3) [.agg [.int .i64 a,.lst none z o ks,.int .i64 b]]=some (.lst (some 3) false .full [.agg [.int .i64 a,qi (.lst none z o ks),.int .i64 b]]):=by
 cases o<;>rfl
theorem qhe (b:Nat) (m:af) (y:AV):cg (some b) false 74 (some 3) 40 m au (.lst (some 3) false .full [y])=some (.lst (some 3) false (.tok b 74) [y],m.set b (some (Ent.tok 1 3))):=rfl
theorem qhg {b t:Nat} {m:af} {es:List AV} {y:AV} (ht:m.get t=some (Ent.tok es.length 3)) (h:es.length < 1000000):cg (some b) false 74 (some 3) 40 m (.lst (some 3) false (.tok t 74) es) (.lst (some 3) false .full [y])=some (.lst (some 3) false (.tok t 74) (es++[y]),m.set t (some (Ent.tok (es.length+1) 3))):=by
 have h2:(es.length+1) * 40<=gL:=by unfold gL;omega
 simp[cg,ht,Sh.size,h2]
theorem NA.move {m m':af} {na:AV} {l:List ND} {T:List Nat} (h:NA m na l T) (f:∀ x∈T,m'.get x=m.get x):NA m' na l T:=by
 cases h with
 | none=>exact .none
 | some t l ht=>exact .some t l ((f t (by simp)).trans ht)
theorem SAt.move {m m':af} {s p:Nat} {arms na:AV} {most:Int} {l:List ND} {T:List Nat} (h:SAt m s p arms na most l T) (f:∀ x∈s::p::T,m'.get x=m.get x):SAt m' s p arms na most l T:=
 ⟨(f s (by simp)).trans h.hs,(f p (by simp)).trans h.hp,h.hn.move fun x hx=>f x (by simp[hx]),h.ok,h.ne,h.hT⟩
theorem SAt.lt {m:af} {s p:Nat} {arms na:AV} {most:Int} {l:List ND} {T:List Nat} (h:SAt m s p arms na most l T):∀ x∈s::p::T,x < m.length:=by
 intro x hx;simp only[gB] at hx
 rcases hx with rfl | rfl | hx
 ·exact bJ h.hs
 ·exact bJ h.hp
 ·cases h.hn with
  | none=>cases hx
  | some t l ht=>
    obtain rfl:x=t:=by simpa using hx
    exact bJ ht
def eQ (m:af) (s:Nat) (F:List Nat) (arms:AV) (most:Int) (l:List ND):Prop:=∃ p na T,SAt m s p arms na most l T/\F=s::p::T
theorem eQ.move {m m':af} {s:Nat} {F:List Nat} {arms:AV} {most:Int} {l:List ND} (h:eQ m s F arms most l) (f:∀ x∈F,m'.get x=m.get x):eQ m' s F arms most l:=by
 obtain ⟨p,na,T,h,rfl⟩:=h;exact ⟨p,na,T,h.move f,rfl⟩
theorem eQ.lt {m:af} {s:Nat} {F:List Nat} {arms:AV} {most:Int} {l:List ND} (h:eQ m s F arms most l):∀ x∈F,x < m.length:=by
 obtain ⟨p,na,T,h,rfl⟩:=h;exact h.lt
theorem eQ.fr {m m':af} {s:Nat} {F G:List Nat} {arms:AV} {most:Int} {l:List ND} (h:eQ m s F arms most l) (f:Fr m m' G) (hd:∀ x∈F,x∉G):eQ m' s F arms most l:=h.move fun x hx=>f.get x (h.lt x hx) (hd x hx)
def Gr (m:af) (F F':List Nat):Prop:=∀ x∈F',x∈F\/m.length<=x
theorem Gr.refl (m:af) (F:List Nat):Gr m F F:=fun _ h=>.inl h
theorem Gr.trans {m m1:af} {F F1 F2:List Nat} (hl:m.length<=m1.length) (h:Gr m F F1) (k:Gr m1 F1 F2):Gr m F F2:=fun x hx=>by
 rcases k x hx with h1 | h1
 ·exact h x h1
 ·exact .inr (by omega)
def jb (l:List ND) (n:ND):List ND:=if n∈l then l else l++[n]
theorem D4 {l:List ND} {n:ND} (h:n∉l):l.idxOf n=l.length:=List.idxOf_eq_length h
theorem qnP {m:af} {s p:Nat} {arms na:AV} {most:Int} {l:List ND} {T:List Nat} (h:SAt m s p arms na most l T) {n:ND} (hn:n.ok) (hm:n∉l) {z:Bool} {o:Own} (hk:qi (.lst none z o (n.kids.map (AV.int .i64)))=fc n)
  (hl:(l.length:Int) < most) (oT:most<=100000):∃ m' na' T',AC ae 139 [.ptr s 0,.agg [.int .i64 n.var,.lst none z o (n.kids.map (AV.int .i64)),.int .i64 n.leaf]] m=some (.int .i64 l.length,m') /\
   SAt m' s p arms na' most (l++[n]) T'/\Fr m m' (s::p::T)/\∀ t∈T',t∈T\/m.length<=t:=by
 have hs:=h.hs;have hp:=h.hp;have mG:=bJ hs;have hpl:=bJ hp;have hne:=h.ne;have qlp:p≠s:=fun e=>hne e.symm;have nm:=Xa hn z o
 have be:∀ x∈l++[n],x.ok:=fun x hx=>by
  rcases im.1 hx with hx | hx
  ·exact h.ok x hx
  ·obtain rfl:x=n:=by simpa using hx
   exact hn
 have fq:l.length < 100000:=by omega
 generalize hbx:some (Ent.obj true [.int .i64 n.var,.lst none z o (n.kids.map (AV.int .i64)),.int .i64 n.leaf])=bx;have Nd:af.get (m++[bx]) p=some (Ent.mp .str (lV 0 l)):=by rw[cn hpl];exact hp
 have lk:=Wx Nd h.ok hn (.int .i64 0);rw[aj hm] at lk;have sr:=An n.var n.leaf z o (n.kids.map (AV.int .i64)) m;rw[hbx] at sr;have ldb:Bo bx=some (true,[.int .i64 n.var,.lst none z o (n.kids.map (AV.int .i64)),.int .i64 n.leaf]):=by rw[<- hbx];rfl
 have hT:=h.hT;have oh:AV.agg [.int .i64 n.var,fc n,.int .i64 n.leaf]=n.av:=rfl;have up:=fun m' hp=>qpA (m:=m') (p:=p) hp h.ok hn hm fq;have len1:∀ y:AV,((l.map ND.av)++[y]).length=l.length+1:=fun y=>by simp
 have wr1:IntKind.wrap .i64 (((l.length+1:Nat):Int) - 1)=l.length:=by rw[iK (by omega) (by omega)];omega
 have key:∃ m' na' T',AC ae 139 [.ptr s 0,.agg [.int .i64 n.var,.lst none z o (n.kids.map (AV.int .i64)),.int .i64 n.leaf]] m=some (.int .i64 l.length,m') /\
   af.get m' s=some (Ent.obj true [arms,na',.mref p,.int .i64 most])/\af.get m' p=some (Ent.mp .str (lV 0 (l++[n])))/\NA m' na' (l++[n]) T'/\Fr m m' (s::p::T)/\(∀ t∈T',t≠s/\t≠p)/\∀ t∈T',t∈T\/m.length<=t:=by
  cases h.hn with
  | none=>
   have e:AC ae 139 [.ptr s 0,.agg [.int .i64 n.var,.lst none z o (n.kids.map (AV.int .i64)),.int .i64 n.leaf]] m=some (.int .i64 (0:Nat),(((((m++[bx])++[some Ent.resv]).set (m.length+1) (some (Ent.tok 1 3))).set s (some (Ent.obj true [arms,.lst (some 3) false (.tok (m.length+1) 74) [n.av],.mref p,.int .i64 most]))).set p (some (Ent.mp .str (lV 0 ([]++[n])))))):=by
    rw[Le]
    repeat ((with_reducible (first | apply bs | apply eX));(focus (first | (simp (disch:=(first | assumption | omega | (simp only[aI,aZ,aJ,aM];first | done | omega))) only[eW,beq_self_eq_true,cO,aa,Sh.size,bq,bC,Nat.reduceAdd,Nat.reduceLeDiff,aR,hs,sr,nm,lk,ldb];first | done | rfl) | rfl));try dsimp only)
    rw[ig]
    repeat ((with_reducible (first | apply bs | apply eX));(focus (first | (simp (disch:=(first | assumption | omega | (simp only[aI,aZ,aJ,aM];first | done | omega))) only[eW,beq_self_eq_true,cO,aa,Sh.size,bq,bC,Nat.reduceAdd,Nat.reduceLeDiff,aR,hs,sr,nm,lk,ldb];first | done | rfl) | rfl));try dsimp only)
    rw[az,aj (by simp at hl ⊢;omega)]
    repeat ((with_reducible (first | apply bs | apply eX));(focus (first | (simp (disch:=(first | assumption | omega | (simp only[aI,aZ,aJ,aM];first | done | omega))) only[eW,beq_self_eq_true,cO,aa,Sh.size,bq,bC,Nat.reduceAdd,Nat.reduceLeDiff,aR,hs,sr,nm,lk,ldb,Hl,hk,qhe,oh];first | done | rfl) | rfl));try dsimp only)
    rw[show IntKind.wrap .i64 ((1:Nat) - 1:Int)=((([]:List ND).length:Nat):Int) from rfl,up _ ?hq,aa]
    case hq=>exact (by simp (disch:=(first | assumption | omega | (simp only[aI,aZ,aJ,aM];first | done | omega))) only[gK,cn,bV,cF,dM,hp];first | done | rfl)
    repeat ((with_reducible (first | apply bs | apply eX));(focus (first | (simp (disch:=(first | assumption | omega | (simp only[aI,aZ,aJ,aM];first | done | omega))) only[eW,beq_self_eq_true,cO,aa,Sh.size,bq,bC,Nat.reduceAdd,Nat.reduceLeDiff,aR,hs];first | done | rfl) | rfl));try dsimp only)
    rfl
   refine ⟨_,_,[m.length+1],e,(by simp (disch:=(first | assumption | omega | (simp only[aI,aZ,aJ,aM];first | done | omega))) only[gK,cn,bV,cF,dM];first | done | rfl),(by simp (disch:=(first | assumption | omega | (simp only[aI,aZ,aJ,aM];first | done | omega))) only[gK,cn,bV,cF,dM];first | done | rfl),?_,?_,?_,?_⟩
   ·exact .some _ [n] (by simp (disch:=(first | assumption | omega | (simp only[aI,aZ,aJ,aM];first | done | omega))) only[gK,cn,bV,cF,dM];first | done | rfl)
   ·exact ((((Fr.app m bx _).snoc _).set _ (.inr (by omega))).set _ (.inl (by simp))).set _ (.inl (by simp))
   ·intro t ht;obtain rfl:t=m.length+1:=by simpa using ht
    omega
   ·intro t ht;obtain rfl:t=m.length+1:=by simpa using ht
    omega
  | some t l ht=>
   have gF:=bJ ht;have A5:=(hT t (by simp)).1;have VE:=(hT t (by simp)).2;have qp2:s≠t:=fun e=>A5 e.symm;have qp1:p≠t:=fun e=>VE e.symm
   have e:AC ae 139 [.ptr s 0,.agg [.int .i64 n.var,.lst none z o (n.kids.map (AV.int .i64)),.int .i64 n.leaf]] m=some (.int .i64 l.length,(((((m++[bx])++[some Ent.resv]).set t (some (Ent.tok (l.length+1) 3))).set s (some (Ent.obj true [arms,.lst (some 3) false (.tok t 74) (l.map ND.av++[n.av]),.mref p,.int .i64 most]))).set p (some (Ent.mp .str (lV 0 (l++[n])))))):=by
    have ap:=fun m' b ht=>qhg (b:=b) (m:=m') (t:=t) (es:=l.map ND.av) (y:=n.av) ht (by simp;omega);simp only[bU] at ap;rw[Le]
    repeat ((with_reducible (first | apply bs | apply eX));(focus (first | (simp (disch:=(first | assumption | omega | (simp only[aI,aZ,aJ,aM];first | done | omega))) only[eW,beq_self_eq_true,cO,aa,Sh.size,bq,bC,Nat.reduceAdd,Nat.reduceLeDiff,aR,hs,sr,nm,lk,ldb];first | done | rfl) | rfl));try dsimp only)
    rw[ig]
    repeat ((with_reducible (first | apply bs | apply eX));(focus (first | (simp (disch:=(first | assumption | omega | (simp only[aI,aZ,aJ,aM];first | done | omega))) only[eW,beq_self_eq_true,cO,aa,Sh.size,bq,bC,Nat.reduceAdd,Nat.reduceLeDiff,aR,hs,sr,nm,lk,ldb,bU];first | done | rfl) | rfl));try dsimp only)
    rw[az,aj (by omega)]
    repeat ((with_reducible (first | apply bs | apply eX));(focus (first | (simp (disch:=(first | assumption | omega | (simp only[aI,aZ,aJ,aM];first | done | omega))) only[eW,beq_self_eq_true,cO,aa,Sh.size,bq,bC,Nat.reduceAdd,Nat.reduceLeDiff,aR,hs,sr,nm,lk,ldb,Hl,hk,oh];first | done | rfl) | rfl));try dsimp only)
    rw[ap _ _ ?hq,aa]
    case hq=>exact (by simp (disch:=(first | assumption | omega | (simp only[aI,aZ,aJ,aM];first | done | omega))) only[gK,cn,bV,cF,dM,ht];first | done | rfl)
    dsimp only
    repeat ((with_reducible (first | apply bs | apply eX));(focus (first | (simp (disch:=(first | assumption | omega | (simp only[aI,aZ,aJ,aM];first | done | omega))) only[eW,beq_self_eq_true,cO,aa,Sh.size,bq,bC,Nat.reduceAdd,Nat.reduceLeDiff,aR,hs,len1];first | done | rfl) | rfl));try dsimp only)
    rw[wr1,up _ ?hq,aa]
    case hq=>exact (by simp (disch:=(first | assumption | omega | (simp only[aI,aZ,aJ,aM];first | done | omega))) only[gK,cn,bV,cF,dM,hp];first | done | rfl)
    repeat ((with_reducible (first | apply bs | apply eX));(focus (first | (simp (disch:=(first | assumption | omega | (simp only[aI,aZ,aJ,aM];first | done | omega))) only[eW,beq_self_eq_true,cO,aa,Sh.size,bq,bC,Nat.reduceAdd,Nat.reduceLeDiff,aR,hs,len1];first | done | rfl) | rfl));try dsimp only)
    rw[wr1]
   refine ⟨_,_,[t],e,(by simp (disch:=(first | assumption | omega | (simp only[aI,aZ,aJ,aM];first | done | omega))) only[gK,cn,bV,cF,dM];first | done | rfl),(by simp (disch:=(first | assumption | omega | (simp only[aI,aZ,aJ,aM];first | done | omega))) only[gK,cn,bV,cF,dM];first | done | rfl),?_,?_,?_,?_⟩
   ·have e2:(l++[n]).map ND.av=l.map ND.av++[n.av]:=by simp
    rw[<- e2];refine .some t (l++[n]) ?_;rw[aI]
    exact (by simp (disch:=(first | assumption | omega | (simp only[aI,aZ,aJ,aM];first | done | omega))) only[gK,cn,bV,cF,dM];first | done | rfl)
   ·exact ((((Fr.app m bx _).snoc _).set _ (.inl (by simp))).set _ (.inl (by simp))).set _ (.inl (by simp))
   ·intro x hx;obtain rfl:x=t:=by simpa using hx
    exact ⟨A5,VE⟩
   ·intro x hx;exact .inl hx
 obtain ⟨m',na',T',e,k1,k2,k3,k4,k5,k6⟩:=key;exact ⟨m',na',T',e,⟨k1,k2,k3,be,hne,k5⟩,k4,k6⟩
theorem XV {m:af} {s:Nat} {F:List Nat} {arms:AV} {most:Int} {l:List ND} (h:eQ m s F arms most l) {n:ND} (hn:n.ok) {z:Bool} {o:Own} (hk:qi (.lst none z o (n.kids.map (AV.int .i64)))=fc n)
  (hl:(l.length:Int) < most) (oT:most<=100000):∃ m' F',AC ae 139 [.ptr s 0,.agg [.int .i64 n.var,.lst none z o (n.kids.map (AV.int .i64)),.int .i64 n.leaf]] m=some (.int .i64 (l.idxOf n:Nat),m') /\
   eQ m' s F' arms most (jb l n)/\Fr m m' F/\Gr m F F':=by
 obtain ⟨p,na,T,h,rfl⟩:=h
 by_cases hm:n∈l
 ·refine ⟨_,s::p::T,qnQ h hn hm z o,?_,Fr.app m _ _,Gr.refl _ _⟩;rw[jb,an hm];exact ⟨p,na,T,h.move fun x hx=>cn (h.lt x hx),rfl⟩
 ·obtain ⟨m',na',T',e,h1,h2,h3⟩:=qnP h hn hm hk hl oT
  refine ⟨m',s::p::T',by rw[D4 hm];exact e,?_,h2,fun x hx=>?_⟩
  ·rw[jb,aj hm];exact ⟨p,na',T',h1,rfl⟩
  ·simp only[gB] at hx ⊢
   rcases hx with rfl | rfl | hx
   ·exact .inl (.inl rfl)
   ·exact .inl (.inr (.inl rfl))
   ·rcases h3 x hx with h | h
    ·exact .inl (.inr (.inr h))
    ·exact .inr h
end Go.Ab
namespace Go.Ab
noncomputable section
open Go.Proofs.Tryz
theorem CN (a0 a1 a2:AV) (m:af):AC ae 34 [a0,a1,a2] m=(eR none none m a0).bind fun r1=>(eR none none r1.2 a1).bind fun r2=>(eR none none r2.2 a2).bind fun r3=>(ai none r3.2 r1.1).bind fun v4=>(AC ae 80 [v4] r3.2).bind fun r5=>aw r5.1 (some ((.tup [(.int .i64 0),(.int .i64 4)]),r5.2)) ((ai none r5.2 r2.1).bind fun v6=>(ag .other .lss v6 (.int .i64 0)).bind fun v7=>aw v7 (some ((.tup [(.int .i64 0),(.int .i64 1)]),r5.2)) ((ai none r5.2 r2.1).bind fun v8=>(ai none r5.2 r1.1).bind fun v9=>(iD v9).bind fun v10=>(aS 0 v10).bind fun v11=>(ai none r5.2 v11).bind fun v12=>(aK false v12).bind fun bp=>(ag .other .geq v8 bp).bind fun bj=>aw bj (some ((.tup [(.int .i64 0),(.int .i64 1)]),r5.2)) ((ai none r5.2 r3.1).bind fun bn=>(aK false bn).bind fun bO=>(ai none r5.2 r1.1).bind fun bB=>(iD bB).bind fun fk=>(aS 0 fk).bind fun eU=>(ai none r5.2 eU).bind fun v20=>(ai none r5.2 r2.1).bind fun v21=>(aG none v20 v21).bind fun v22=>(ai none r5.2 v22).bind fun v23=>(ag .other .neq bO v23).bind fun v24=>aw v24 (some ((.tup [(.int .i64 0),(.int .i64 1)]),r5.2)) ((ai none r5.2 r3.1).bind fun v25=>(AC ae 92 [v25,(.fn 97 [r1.1,r2.1])] r5.2).bind fun qG=>aw qG.1 (some ((.tup [(.int .i64 0),(.int .i64 1)]),qG.2)) ((ai none qG.2 r1.1).bind fun jK=>(AC ae 84 [jK,(.fn 98 [r1.1,r2.1,r3.1])] qG.2).bind fun Et=>(ba Et.1 0).bind fun j9=>(ba Et.1 1).bind fun v30=>some ((.tup [j9,v30]),Et.2)))))):=
(bh ae 34 [a0,a1,a2] m (fn:=f34) (c:=aC f34) qix rfl).trans (by kernel_rfl)
theorem RZ (a0 a1 a2:AV) (m:af):AC ae 97 [a0,a1,a2] m=(ai none m a1).bind fun v1=>(AC ae 81 [v1,a0] m).bind fun r2=>(jg .not r2.1).bind fun v3=>aw v3 (tZ (some (AV.tup [],r2.2)=some (AV.tup [],r2.2)) (some ((.bool true),r2.2))) ((ai none r2.2 a1).bind fun v4=>(ai none r2.2 a2).bind fun v5=>(AC ae 68 [v4,a0] r2.2).bind fun r6=>tZ ((ai none r6.2 a2).bind (fun v=>some (v,r6.2))=some (v5,r6.2)) ((ag .other .leq r6.1 v5).bind fun v7=>some (v7,r6.2))):=
(bh ae 97 [a0,a1,a2] m (fn:=f97) (c:=aC f97) qjc rfl).trans (by kernel_rfl)
theorem T98 (a0 a1 a2:AV) (m:af):AC ae 98 [a0,a1,a2] m=(ai none m a0).bind fun v1=>(ai none m a1).bind fun v2=>(ai none m a2).bind fun v3=>(aD (AP ae) none m 88 [v3]).bind fun r4=>tZ ((ai none r4.2 a0).bind (fun v=>some (v,r4.2))=some (v1,r4.2)) (tZ ((ai none r4.2 a1).bind (fun v=>some (v,r4.2))=some (v2,r4.2)) ((AC ae 99 [v1,v2,r4.1] r4.2).bind fun r5=>some (r5.1,r5.2))):=
(bh ae 98 [a0,a1,a2] m (fn:=f98) (c:=aC f98) qjd rfl).trans (by kernel_rfl)
end
end Go.Ab
namespace Go.Ab
open Go.Proofs Go.Proofs.Tryz
abbrev IA (z:Bool) (o:Own) (ns:List Int):AV:=.lst none z o (ns.map (AV.int .i64))
theorem nA (z:Bool) (o:Own) (ns:List Int):Fz (IA z o ns) (IA z o.fr ns):=fun m=>by cases o<;>rfl
theorem iI (z:Bool) (o:Own) (ns:List Int):aK false (IA z o ns)=some (.int .i64 ns.length):=by
 rw[oW,bU]
theorem j6 {z:Bool} {o:Own} {ns:List Int} {k:IntKind} {i:Nat} (h:i < ns.length):aG none (IA z o ns) (.int k i)=some (.vptr [.int .i64 ns[i]]):=by
 simp[aG,h,AV.cells]
theorem D5 {z:Bool} {o:Own} {ns:List Int} {k:IntKind} (h:0 < ns.length):aG none (IA z o ns) (.int k 0)=some (.vptr [.int .i64 ns[0]]):=j6 (i:=0) h
def xY (z:Bool) (ns:List Int):AV:=if z then au else if ns=[] then .lst none false .full [] else IA false .no ns
theorem V49 (z:Bool) (o:Own) (ns:List Int) (hl:ns.length<=1000000):AP ae 88 [IA z o ns]=some (xY z ns):=by
 have e0:ag .sl .eql (IA z o ns) au=some (.bool z):=rfl
 cases z with
 | true=>
  refine iH (m:=[]) (v:=au) (l:=[]) ?_ rfl rfl;rw[Lh,e0,aa,mJ]
 | false=>
  cases ns with
  | nil=>
   refine iH (m:=[]) (v:=.lst none false .full []) (l:=[]) ?_ rfl rfl;rw[Lh,e0,aa,ig]
   rfl
  | cons n ns=>
   refine iH (m:=[some (Ent.tok (0+(ns.length+1)) 1)]) (v:=.lst none false (.tok 0 3) ((n::ns).map (AV.int .i64))) (l:=[]) ?_ rfl rfl;rw[Lh,e0,aa,ig,show fh none []=some (.lst none false .full []) from rfl,aa];have hb:(0+(ns.length+1)) * 8<=gL:=by unfold gL;simp at hl;omega
   simp only[cg,fV,aM,aJ,bU,hb,bq,or_true,jM,lL,aA,aM,bE,aa,Sh.size]
theorem Ow (z:Bool) (o:Own) (ns:List Int) (hl:ns.length<=1000000) (m:af):aD (AP ae) none m 88 [IA z o ns]=some (xY z ns,m):=by
 rw[cw (nA z o ns),V49 _ _ _ hl];rfl
theorem V51 (n:Int):AP ae 94 [.int .i64 n]=some (.bool (decide (0<=n/\n<=2147483647))):=by
 refine iH (m:=[]) (v:=.bool (decide (0<=n/\n<=2147483647))) (l:=[]) ?_ rfl rfl;rw[RY,kF,aa,az]
 by_cases h:n≥0
 ·rw[an h,sg,aa];congr 3;exact jD.2 (by omega)
 ·rw[aj h];congr 3;exact (dk (by omega)).symm
theorem Ox (n:Int) (m:af):aD (AP ae) none m 94 [.int .i64 n]=some (.bool (decide (0<=n/\n<=2147483647)),m):=by
 rw[cw (gu _ _),V51];rfl
section
variable {m:af} {s:Nat} {F:List Nat} {arms:AV} {most:Int} {l:List ND}
theorem BU (h:eQ m s F arms most l) (hm:most≠0):AC ae 80 [.ptr s 0] m=some (.bool false,m):=by
 obtain ⟨p,na,T,h,rfl⟩:=h;have hs:=h.hs;rw[T80,show ag .pt .eql (.ptr s 0) .nilp=some (.bool false) from rfl,aa,ig]
 repeat ((with_reducible (first | apply bs | apply eX));(focus (first | (simp (disch:=(first | assumption | omega | (simp only[aI,aZ,aJ,aM];first | done | omega))) only[eW,beq_self_eq_true,cO,aa,Sh.size,bq,bC,Nat.reduceAdd,Nat.reduceLeDiff,aR,hs];first | done | rfl) | rfl));try dsimp only)
 rw[show (decide (most=0))=false from dk hm]
theorem Jy (h:eQ m s F arms most l) (i:Int):AC ae 81 [.ptr s 0,.int .i64 i] m=some (.bool (decide (0<=i/\i < l.length)),m):=by
 obtain ⟨p,na,T,h,rfl⟩:=h;have hs:=h.hs
 have hlen:aK false na=some (.int .i64 l.length):=by
  cases h.hn with
  | none=>rfl
  | some t l ht=>rw[oW,bU]
 rw[T81,kF,aa,az]
 by_cases h0:i≥0
 ·rw[an h0]
  repeat ((with_reducible (first | apply bs | apply eX));(focus (first | (simp (disch:=(first | assumption | omega | (simp only[aI,aZ,aJ,aM];first | done | omega))) only[eW,beq_self_eq_true,cO,aa,Sh.size,bq,bC,Nat.reduceAdd,Nat.reduceLeDiff,aR,hs,hlen];first | done | rfl) | rfl));try dsimp only)
  congr 3;exact jD.2 (by omega)
 ·rw[aj h0,show (decide (0<=i/\i < l.length))=false from dk (by omega)]
def ft (a:Nat) (n:ND):Int:=if n.var≥0 then n.var else a
theorem Ei {na:AV} {T:List Nat} (h:NA m na l T) {i:Nat} (hi:i < l.length):aG (some 3) na (.int .i64 i)=some (.vptr [.int .i64 l[i].var,fc l[i],.int .i64 l[i].leaf]):=by
 cases h with
 | none=>simp at hi
 | some t l ht=>simp[aG,hi];rfl
theorem Hj (n:ND) (m:af) (h:af.get m m.length=none):aN (some 3) (m++[some (Ent.obj true [.int .i64 0,au,.int .i64 0])]) (.ptr m.length 0) (.agg [.int .i64 n.var,fc n,.int .i64 n.leaf])=some (m++[some (Ent.obj true [.int .i64 n.var,fc n,.int .i64 n.leaf])]):=by
 have e:cZ (some 3) (.agg [.int .i64 n.var,fc n,.int .i64 n.leaf])=true:=by unfold fc;split<;>rfl
 rw[qh,bV rfl,j7,aa];simp[cO,Sh.size,e,bC,AV.cells]
theorem HL (m:af):af.get m m.length=none:=by simp[af.get]
theorem Jz {z:Bool} {o:Own} {ar:List Int} (h:eQ m s F (IA z o ar) most l) {i:Nat} (hi:i < l.length):∃ m',AC ae 68 [.ptr s 0,.int .i64 i] m=some (.int .i64 (ft ar.length l[i]),m')/\Fr m m' []:=by
 obtain ⟨p,na,T,h,rfl⟩:=h;have hs:=h.hs;have mG:=bJ hs;have mV:=Ei h.hn hi;have bx:=Hj l[i] m (HL m);refine ⟨_,?_,Fr.app m (some (Ent.obj true [.int .i64 l[i].var,fc l[i],.int .i64 l[i].leaf])) []⟩;rw[T68]
 repeat ((with_reducible (first | apply bs | apply eX));(focus (first | (simp (disch:=(first | assumption | omega | (simp only[aI,aZ,aJ,aM];first | done | omega))) only[eW,beq_self_eq_true,cO,aa,Sh.size,bq,bC,Nat.reduceAdd,Nat.reduceLeDiff,aR,hs,mV,bx];first | done | rfl) | rfl));try dsimp only)
 rw[az]
 by_cases hv:l[i].var≥0
 ·rw[an hv]
  repeat ((with_reducible (first | apply bs | apply eX));(focus (first | (simp (disch:=(first | assumption | omega | (simp only[aI,aZ,aJ,aM];first | done | omega))) only[eW,beq_self_eq_true,cO,aa,Sh.size,bq,bC,Nat.reduceAdd,Nat.reduceLeDiff,aR,hs];first | done | rfl) | rfl));try dsimp only)
  rw[ft,an hv]
 ·rw[aj hv]
  repeat ((with_reducible (first | apply bs | apply eX));(focus (first | (simp (disch:=(first | assumption | omega | (simp only[aI,aZ,aJ,aM];first | done | omega))) only[eW,beq_self_eq_true,cO,aa,Sh.size,bq,bC,Nat.reduceAdd,Nat.reduceLeDiff,aR,hs,iI];first | done | rfl) | rfl));try dsimp only)
  rw[ft,aj hv]
def iC (x:Int):ND:=⟨-1,[],x⟩
theorem Wc {x:Int} (h:0<=x/\x<=2147483647):(iC x).ok:=.inl ⟨rfl,rfl,h⟩
theorem PI (h:eQ m s F arms most l) {x:Int} (hx:0<=x/\x<=2147483647) (hl:(l.length:Int) < most) (oT:most<=100000) :
  ∃ m' F',AC ae 96 [.ptr s 0,.int .i64 x] m=some (.int .i64 (l.idxOf (iC x):Nat),m')/\eQ m' s F' arms most (jb l (iC x))/\Fr m m' F/\Gr m F F':=by
 obtain ⟨m',F',e,h1,h2,h3⟩:=XV h (Wc hx) (z:=true) (o:=.full) rfl hl oT;refine ⟨m',F',?_,h1,h2,h3⟩;have e:AC ae 139 [.ptr s 0,.agg [.int .i64 (-1),au,.int .i64 x]] m=_:=e;rw[T96,show fR (.agg [(.int .i64 0),au,(.int .i64 0)]) [(0,none,(.int .i64 (-1))),(2,none,.int .i64 x)]=some (.agg [.int .i64 (-1),au,.int .i64 x]) from rfl,aa,e,aa]
def gU (v:Int) (ks:List Int):ND:=⟨v,ks,0⟩
def nH (l:List ND) (v:Int) (ks:List Int):Int×List ND:=if ks.all (fun k=>k == ks.headD 0) then (ks.headD 0,l) else (((l.idxOf (gU v ks):Nat):Int),jb l (gU v ks))
theorem Xd (l:List ND) (v k0:Int) (ks:List Int):nH l v (k0::ks)=if (k0::ks).all (fun k=>k == k0) then (k0,l) else (((l.idxOf (gU v (k0::ks)):Nat):Int),jb l (gU v (k0::ks))):=rfl
theorem SF (x0:AV) (v:Int) (z:Bool) (o:Own) (k0:Int) (ks:List Int) (hlen:(k0::ks).length<=1000) (K:KT):∀ j i:Nat,i+j=(k0::ks).length ->
  Gs x0 (.int .i64 v) (IA z o (k0::ks)) (IA z o (k0::ks)) (.int .i64 (k0::ks).length) (.int .i64 i) m K =
   if ((k0::ks).drop i).all (fun k=>k == k0) then K (.exit 0) (Lb (IA z o (k0::ks)) m) else
    (AC ae 139 [x0,.agg [.int .i64 v,IA z o (k0::ks),.int .i64 0]] m).bind fun r8=>K .ret (Lc r8.1 r8.2)
 | 0,i,h=>by
  rw[Ra,bg,aa,az,aj (by omega),jA (by omega)];rfl
 | j+1,i,h=>by
  have hi:i < (k0::ks).length:=by omega
  rw[Ra,bg,aa,az,an (by omega),j6 hi,aa,gz,aa,D5 (by simp),aa,gz,aa,iY,aa,az,kP hi,nX];have hb:∀ (a b:Int),fR (.agg [(.int .i64 0),au,(.int .i64 0)]) [(0,none,.int .i64 v),(1,none,IA z o (k0::ks))]=some (.agg [.int .i64 v,IA z o (k0::ks),.int .i64 0]):=fun _ _=>rfl
  by_cases he:(k0::ks)[i]=k0
  ·rw[aj (by simpa using he),cG (by omega),aa,SF x0 v z o k0 ks hlen K j (i+1) (by omega),show ((k0::ks)[i] == k0)=true by simpa using he,il]
  ·rw[an (by simpa using he),hb 0 0,aa,show ((k0::ks)[i] == k0)=false by simpa using he,lQ];rfl
theorem PJ (h:eQ m s F arms most l) {v:Int} {z:Bool} {o:Own} {ks:List Int} (hne:ks≠[]) (hn:(gU v ks).ok) (hz:z=false) (ho:o=.no\/∃ t e,o=.tok t e) (hl:(l.length:Int) < most) (oT:most<=100000) :
  ∃ m' F',AC ae 99 [.ptr s 0,.int .i64 v,IA z o ks] m=some (.int .i64 (nH l v ks).1,m')/\eQ m' s F' arms most (nH l v ks).2/\Fr m m' F/\Gr m F F':=by
 obtain ⟨k0,ks,rfl⟩:=List.exists_cons_of_ne_nil hne;subst hz
 have hv:¬ v < 0/\(k0::ks).length<=64:=by
  rcases hn with ⟨_,h2,_⟩ | ⟨h1,_,_,_,h5⟩
  ·cases h2
  ·exact ⟨by simp only[gU] at h1;omega,h5⟩
 rw[T99,iI,aa];have w:=SF (m:=m) (.ptr s 0) v false o k0 ks (by omega) (FE (aF ae.P f99.results.toList)) (k0::ks).length 0 (by omega);rw[jT] at w;rw[show (AV.int .i64 0)=.int .i64 ((0:Nat):Int) from rfl,w,Xd]
 by_cases ha:((k0::ks).all fun k=>k == k0)=true
 ·rw[an ha,an ha,qeJ,D5 (by simp),aa,gz,aa];exact ⟨m,F,rfl,h,Fr.refl _ _,Gr.refl _ _⟩
 ·rw[aj ha,aj ha]
  have hk:qi (.lst none false o (((gU v (k0::ks)).kids).map (AV.int .i64)))=fc (gU v (k0::ks)):=by
   unfold fc;rw[aj (show ¬ (gU v (k0::ks)).var < 0 from hv.1)]
   rcases ho with rfl | ⟨t,e,rfl⟩<;>rfl
  obtain ⟨m',F',e,h1,h2,h3⟩:=XV h hn (z:=false) (o:=o) hk hl oT;refine ⟨m',F',?_,h1,h2,h3⟩;have e:AC ae 139 [.ptr s 0,.agg [.int .i64 v,IA false o (k0::ks),.int .i64 0]] m=_:=e;rw[e,aa,qeI]
theorem tw {f g:Nat} {vs:List AV} {m:af} {K:AV->af->OM} (h1:((ae.lib g).isNone && (ae.libm g).isNone)=true) (h2:ae.inl f g=true) (h3:ae.thaw f g=false) (h4:ae.frzc f g=false:=by rfl):jU ae f (AP ae) (AC ae) none g vs m K=(AC ae g vs m).bind fun r=>K r.1 r.2:=by
 have h5:ae.lib g=none/\ae.libm g=none:=by
  rw[bT] at h1;exact ⟨Option.isNone_iff_eq_none.1 h1.1,Option.isNone_iff_eq_none.1 h1.2⟩
 unfold jU;rw[h5.2,h5.1,h2,h4,h3]
theorem PH {g:Nat} {caps:List AV} {id:Int} {l':List ND} (h:eQ m s F arms most l) (h1:((ae.lib g).isNone && (ae.libm g).isNone)=true) (h2:ae.inl 84 g=true) (h3:ae.thaw 84 g=false)
  (hc:∀ m1,Fr m m1 []->∃ m' F',AC ae g caps m1=some (.int .i64 id,m')/\eQ m' s F' arms most l'/\Fr m1 m' F/\Gr m1 F F') :
  ∃ m' F',AC ae 84 [.ptr s 0,.fn g caps] m=some (.tup [.int .i64 id,.int .i64 0],m')/\eQ m' s F' arms most l'/\Fr m m' F/\Gr m F F':=by
 have hlt:=h.lt;obtain ⟨p,na,T,h,rfl⟩:=h;have hs:=h.hs;have mG:=bJ hs
 have hlen:aK false na=some (.int .i64 l.length):=by
  cases h.hn with
  | none=>rfl
  | some t l ht=>rw[oW,bU]
 obtain ⟨m2,F2,e2,k1,k2,k3⟩:=hc (List.set (((m++[some (Ent.obj true [.ptr s 0])])++[some (Ent.obj true [.int .i64 0])])++[some (Ent.obj true [.int .i64 0])]++[some (Ent.obj true [.int .i64 0])]) (m.length+1+1+1) (some (Ent.obj true [.int .i64 l.length]))) (((((Fr.app m _ _).snoc _).snoc _).snoc _).set _ (.inr (by omega)));have len2:=k2.len;simp only[aZ,aI,aJ,aM] at len2
 have g1:af.get m2 (m.length+1)=some (Ent.obj true [.int .i64 0]):=by
  rw[k2.get _ (by simp) (fun hx=>by have:=hlt _ hx;omega)];exact (by simp (disch:=(first | assumption | omega | (simp only[aI,aZ,aJ,aM];first | done | omega))) only[gK,cn,bV,cF,dM];first | done | rfl)
 have g2:af.get m2 (m.length+2)=some (Ent.obj true [.int .i64 0]):=by
  rw[k2.get _ (by simp) (fun hx=>by have:=hlt _ hx;omega)];exact (by simp (disch:=(first | assumption | omega | (simp only[aI,aZ,aJ,aM];first | done | omega))) only[gK,cn,bV,cF,dM];first | done | rfl)
 have e:AC ae 84 [.ptr s 0,.fn g caps] m=some (.tup [.int .i64 id,.int .i64 0],(m2.set (m.length+1) (some (Ent.obj true [.int .i64 id]))).set (m.length+1+1) (some (Ent.obj true [.int .i64 0]))):=by
  rw[RX]
  repeat ((with_reducible (first | apply bs | apply eX));(focus (first | (simp (disch:=(first | assumption | omega | (simp only[aI,aZ,aJ,aM];first | done | omega))) only[eW,beq_self_eq_true,cO,aa,Sh.size,bq,bC,Nat.reduceAdd,Nat.reduceLeDiff,aR,hs,hlen,pS];first | done | rfl) | rfl));try dsimp only)
  rw[bE,tw h1 h2 h3,e2,aa];dsimp only
  repeat ((with_reducible (first | apply bs | apply eX));(focus (first | (simp (disch:=(first | assumption | omega | (simp only[aI,aZ,aJ,aM];first | done | omega))) only[eW,beq_self_eq_true,cO,aa,Sh.size,bq,bC,Nat.reduceAdd,Nat.reduceLeDiff,aR,g1,g2];first | done | rfl) | rfl));try dsimp only)
 refine ⟨_,F2,e,?_,?_,?_⟩
 ·refine k1.move fun x hx=>?_
  have hx2:x≠m.length+1/\x≠m.length+1+1:=by
   rcases k3 x hx with h | h
   ·have:=hlt x h;omega
   ·simp only[aZ,aI,aJ,aM] at h;omega
  rw[cF hx2.2,cF hx2.1]
 ·have f1:Fr m m2 (s::p::T):=Fr.trans (((((Fr.app m _ _).snoc _).snoc _).snoc _).set _ (.inr (by omega))) k2 fun x hx=>.inl hx;exact (f1.set _ (.inr (by omega))).set _ (.inr (by omega))
 ·intro x hx
  rcases k3 x hx with h | h
  ·exact .inl h
  ·simp only[aZ,aI,aJ,aM] at h;exact .inr (by omega)
end
end Go.Ab
namespace Go.Ab
open Go.Proofs Go.Proofs.Tryz
section
variable {m:af} {s:Nat} {F:List Nat} {arms:AV} {most:Int} {l:List ND}
theorem not_mem_nil {F:List Nat}:∀ x∈F,x∉([]:List Nat):=fun _ _ h=>by cases h
theorem eQ.app (h:eQ m s F arms most l) {m':af} (f:Fr m m' []):eQ m' s F arms most l:=h.fr f not_mem_nil
def wV (l:List ND) (x:Int):(Int×Int)×List ND:=if 0<=x/\x<=2147483647 then ((((l.idxOf (iC x):Nat):Int),0),jb l (iC x)) else ((0,1),l)
theorem ZR {b1 b2:Nat} {x:Int} (h:eQ m s F arms most l) (h1:m.get b1=some (Ent.obj true [.ptr s 0])) (h2:m.get b2=some (Ent.obj true [.int .i64 x])) (hx:0<=x/\x<=2147483647) (hl:(l.length:Int) < most) (oT:most<=100000) :
  ∃ m' F',AC ae 95 [.ptr b1 0,.ptr b2 0] m=some (.int .i64 (l.idxOf (iC x):Nat),m')/\eQ m' s F' arms most (jb l (iC x))/\Fr m m' F/\Gr m F F':=by
 obtain ⟨m',F',e,k⟩:=PI h hx hl oT;refine ⟨m',F',?_,k⟩;rw[T95]
 repeat ((with_reducible (first | apply bs | apply eX));(focus (first | (simp (disch:=(first | assumption | omega | (simp only[aI,aZ,aJ,aM];first | done | omega))) only[eW,beq_self_eq_true,cO,aa,Sh.size,bq,bC,Nat.reduceAdd,Nat.reduceLeDiff,aR,h1,h2,e];first | done | rfl) | rfl));try dsimp only)
theorem ZH (h:eQ m s F arms most l) (x:Int) (hl:(l.length:Int) < most) (oT:most<=100000) :
  ∃ m' F',AC ae 33 [.ptr s 0,.int .i64 x] m=some (.tup [.int .i64 (wV l x).1.1,.int .i64 (wV l x).1.2],m')/\eQ m' s F' arms most (wV l x).2/\Fr m m' F/\Gr m F F':=by
 have f2:Fr m ((m++[some (Ent.obj true [.ptr s 0])])++[some (Ent.obj true [.int .i64 x])]) []:=(Fr.app m _ _).snoc _;have h2:=h.app f2;have e50:=BU h2 (by omega);have hlt:=h.lt
 by_cases hx:0<=x/\x<=2147483647
 ·have hd:decide (0<=x/\x<=2147483647)=true:=eT hx
  obtain ⟨m',F',e52,k1,k2,k3⟩:=PH (g:=95) (caps:=[.ptr m.length 0,.ptr (m.length+1) 0]) (id:=(l.idxOf (iC x):Nat)) h2 rfl rfl rfl
   (fun m1 fr=>ZR (h2.app fr) (by rw[fr.get _ (by simp) (by simp)];exact (by simp (disch:=(first | assumption | omega | (simp only[aI,aZ,aJ,aM];first | done | omega))) only[gK,cn,bV,cF,dM];first | done | rfl)) (by rw[fr.get _ (by simp) (by simp)];exact (by simp (disch:=(first | assumption | omega | (simp only[aI,aZ,aJ,aM];first | done | omega))) only[gK,cn,bV,cF,dM];first | done | rfl)) hx hl oT)
  refine ⟨m',F',?_,by rw[wV,an hx];exact k1,Fr.trans (f2.mono (by simp)) k2 fun _ h=>.inl h,Gr.trans f2.len (Gr.refl m F) k3⟩;rw[RQ,wV,an hx]
  repeat ((with_reducible (first | apply bs | apply eX));(focus (first | (simp (disch:=(first | assumption | omega | (simp only[aI,aZ,aJ,aM];first | done | omega))) only[eW,beq_self_eq_true,cO,aa,Sh.size,bq,bC,Nat.reduceAdd,Nat.reduceLeDiff,aR,pS,uL,e50];first | done | rfl) | rfl));try dsimp only)
  rw[ig]
  repeat ((with_reducible (first | apply bs | apply eX));(focus (first | (simp (disch:=(first | assumption | omega | (simp only[aI,aZ,aJ,aM];first | done | omega))) only[eW,beq_self_eq_true,cO,aa,Sh.size,bq,bC,Nat.reduceAdd,Nat.reduceLeDiff,aR,pS,uL,Ox,hd];first | done | rfl) | rfl));try dsimp only)
  rw[jN,ig]
  repeat ((with_reducible (first | apply bs | apply eX));(focus (first | (simp (disch:=(first | assumption | omega | (simp only[aI,aZ,aJ,aM];first | done | omega))) only[eW,beq_self_eq_true,cO,aa,Sh.size,bq,bC,Nat.reduceAdd,Nat.reduceLeDiff,aR,e52];first | done | rfl) | rfl));try dsimp only)
 ·have hd:decide (0<=x/\x<=2147483647)=false:=dk hx;refine ⟨_,F,?_,by rw[wV,aj hx];exact h2,f2.mono (by simp),Gr.refl _ _⟩;rw[RQ,wV,aj hx]
  repeat ((with_reducible (first | apply bs | apply eX));(focus (first | (simp (disch:=(first | assumption | omega | (simp only[aI,aZ,aJ,aM];first | done | omega))) only[eW,beq_self_eq_true,cO,aa,Sh.size,bq,bC,Nat.reduceAdd,Nat.reduceLeDiff,aR,pS,uL,e50];first | done | rfl) | rfl));try dsimp only)
  rw[ig]
  repeat ((with_reducible (first | apply bs | apply eX));(focus (first | (simp (disch:=(first | assumption | omega | (simp only[aI,aZ,aJ,aM];first | done | omega))) only[eW,beq_self_eq_true,cO,aa,Sh.size,bq,bC,Nat.reduceAdd,Nat.reduceLeDiff,aR,pS,uL,Ox,hd];first | done | rfl) | rfl));try dsimp only)
  rw[nT,mJ]
def ub (a:Nat) (l:List ND) (v k:Int):Bool:=decide (0<=k/\k < l.length) && decide (v < ft a (l.getD k.toNat ⟨0,[],0⟩))
def vt (ar:List Int) (l:List ND) (v:Int) (ks:List Int):(Int×Int)×List ND:=
 if 0<=v/\v < ar.length/\(ks.length:Int)=ar.getD v.toNat 0/\ks.all (ub ar.length l v)=true then (((nH l v ks).1,0),(nH l v ks).2) else ((0,1),l)
theorem ZS {z:Bool} {o:Own} {ar:List Int} {b1 b2:Nat} {k v:Int} (h:eQ m s F (IA z o ar) most l) (h1:m.get b1=some (Ent.obj true [.ptr s 0])) (h2:m.get b2=some (Ent.obj true [.int .i64 v])) :
  ∃ m',AC ae 97 [.int .i64 k,.ptr b1 0,.ptr b2 0] m=some (.bool (!ub ar.length l v k),m')/\Fr m m' []:=by
 have e56:=Jy h k;have mW:=bJ h1;have ja:=bJ h2
 by_cases hk:0<=k/\k < l.length
 ·have hd:decide (0<=k/\k < l.length)=true:=eT hk;obtain ⟨i,rfl⟩:=nW hk.1;have hi:i < l.length:=by omega
  obtain ⟨m',e57,f⟩:=Jz h hi;refine ⟨m',?_,f⟩;have iz:m'.get b2=some (Ent.obj true [.int .i64 v]):=(f.get _ ja (by simp)).trans h2;rw[RZ]
  repeat ((with_reducible (first | apply bs | apply eX));(focus (first | (simp (disch:=(first | assumption | omega | (simp only[aI,aZ,aJ,aM];first | done | omega))) only[eW,beq_self_eq_true,cO,aa,Sh.size,bq,bC,Nat.reduceAdd,Nat.reduceLeDiff,aR,h1,e56];first | done | rfl) | rfl));try dsimp only)
  rw[hd,jN,ig]
  repeat ((with_reducible (first | apply bs | apply eX));(focus (first | (simp (disch:=(first | assumption | omega | (simp only[aI,aZ,aJ,aM];first | done | omega))) only[eW,beq_self_eq_true,cO,aa,Sh.size,bq,bC,Nat.reduceAdd,Nat.reduceLeDiff,aR,h1,h2,e57];first | done | rfl) | rfl));try dsimp only)
  rw[vp (by simp only[eY,iz,j7,aa];rfl)]
  repeat ((with_reducible (first | apply bs | apply eX));(focus (first | (simp (disch:=(first | assumption | omega | (simp only[aI,aZ,aJ,aM];first | done | omega))) only[eW,beq_self_eq_true,cO,aa,Sh.size,bq,bC,Nat.reduceAdd,Nat.reduceLeDiff,aR];first | done | rfl) | rfl));try dsimp only)
  rw[ub,hd,il,cK,aT,bA hi,fg];congr 3;rw[<- decide_not];exact jD.2 (by omega)
 ·have hd:decide (0<=k/\k < l.length)=false:=dk hk;refine ⟨m,?_,Fr.refl _ _⟩;rw[RZ]
  repeat ((with_reducible (first | apply bs | apply eX));(focus (first | (simp (disch:=(first | assumption | omega | (simp only[aI,aZ,aJ,aM];first | done | omega))) only[eW,beq_self_eq_true,cO,aa,Sh.size,bq,bC,Nat.reduceAdd,Nat.reduceLeDiff,aR,h1,e56];first | done | rfl) | rfl));try dsimp only)
  rw[hd,nT,mJ,vp rfl,ub,hd,lQ,nT]
theorem SL {z:Bool} {o:Own} {ks:List Int} {g:Nat} {caps:List AV} {p:Int->Bool} (hlen:ks.length<=100000) (h1:((ae.lib g).isNone && (ae.libm g).isNone)=true) (h2:ae.inl 145 g=true) (h3:ae.thaw 145 g=false) (m0:af)
  (hc:∀ m1 k,Fr m0 m1 []->∃ m',AC ae g (.int .i64 k::caps) m1=some (.bool (p k),m')/\Fr m1 m' []):∀ (j i:Nat) (m1:af),i+j=ks.length->Fr m0 m1 [] ->
  ∃ m' v,zO (IA z o ks) (.fn g caps) (.int .i64 ks.length) (.int .i64 i) m1 (zJ (aF ae.P f145.results.toList))=some (.int .i64 v,m')/\decide (v≥0)=(ks.drop i).any p/\Fr m0 m' []
 | 0,i,m1,h,f=>by
  refine ⟨m1,-1,?_,?_,f⟩
  ·rw[Qv,bg,aa,az,aj (by omega),qbU]
  ·rw[jA (by omega)];rfl
 | j+1,i,m1,h,f=>by
  have hi:i < ks.length:=by omega
  obtain ⟨m2,e,f2⟩:=hc m1 ks[i] f;have f3:Fr m0 m2 []:=Fr.trans f f2 fun x hx=>by cases hx
  have e0:zO (IA z o ks) (.fn g caps) (.int .i64 ks.length) (.int .i64 i) m1 (zJ (aF ae.P f145.results.toList)) =
    aw (.bool (p ks[i])) (some (.int .i64 i,m2)) (zO (IA z o ks) (.fn g caps) (.int .i64 ks.length) (.int .i64 (i+1:Nat)) m2 (zJ (aF ae.P f145.results.toList))):=by
   rw[Qv,bg,aa,az,an (by omega),j6 hi,aa,gz,aa,show lp (.fn g caps)=some (g,caps) from rfl,aa,tw h1 h2 h3,List.singleton_append,e,aa,qbT,cG (by omega),aa]
  rw[e0,kP hi,List.any_cons]
  cases hp:p ks[i] with
  | true=>
   rw[mJ];exact ⟨m2,i,rfl,by simp,f3⟩
  | false=>
   rw[ig];obtain ⟨m',v,e1,e2,e3⟩:=SL hlen h1 h2 h3 m0 hc j (i+1) m2 (by omega) f3;exact ⟨m',v,e1,by rw[e2,zE],e3⟩
theorem PG {z:Bool} {o:Own} {ks:List Int} {g:Nat} {caps:List AV} {p:Int->Bool} (hlen:ks.length<=100000) (h1:((ae.lib g).isNone && (ae.libm g).isNone)=true) (h2:ae.inl 145 g=true) (h3:ae.thaw 145 g=false)
  (hc:∀ m1 k,Fr m m1 []->∃ m',AC ae g (.int .i64 k::caps) m1=some (.bool (p k),m')/\Fr m1 m' []):∃ m',AC ae 92 [IA z o ks,.fn g caps] m=some (.bool (ks.any p),m')/\Fr m m' []:=by
 obtain ⟨m',v,e1,e2,e3⟩:=SL (z:=z) (o:=o) hlen h1 h2 h3 m hc ks.length 0 m (by omega) (Fr.refl _ _);refine ⟨m',?_,e3⟩;rw[T92,qfz,iI,aa,show (AV.int .i64 0)=.int .i64 ((0:Nat):Int) from rfl,e1,aa,show ((0:Nat):Int)=0 from rfl];rw[kF,aa,e2,jT]
theorem ZT {z:Bool} {o:Own} {ar:List Int} {b1 b2 b3:Nat} {v:Int} {kz:Bool} {ko:Own} {ks:List Int} (h:eQ m s F (IA z o ar) most l) (h1:m.get b1=some (Ent.obj true [.ptr s 0])) (h2:m.get b2=some (Ent.obj true [.int .i64 v])) (h3:m.get b3=some (Ent.obj true [IA kz ko ks]))
  (hne:ks≠[]) (hz:kz=false) (hn:(gU v ks).ok) (hl:(l.length:Int) < most) (oT:most<=100000) :
  ∃ m' F',AC ae 98 [.ptr b1 0,.ptr b2 0,.ptr b3 0] m=some (.int .i64 (nH l v ks).1,m')/\eQ m' s F' (IA z o ar) most (nH l v ks).2/\Fr m m' F/\Gr m F F':=by
 subst hz
 have fL:ks.length<=64:=by
  rcases hn with ⟨_,h2,_⟩ | ⟨_,_,_,_,h5⟩
  ·exact absurd h2 hne
  ·exact h5
 have hcl:xY false ks=IA false .no ks:=by unfold xY;rw[aj (by simp),aj hne]
 have c49:=fun m=>Ow false ko ks (by omega) m;obtain ⟨m',F',e,k⟩:=PJ h hne hn (z:=false) rfl (.inl rfl) hl oT;refine ⟨m',F',?_,k⟩;rw[T98]
 repeat ((with_reducible (first | apply bs | apply eX));(focus (first | (simp (disch:=(first | assumption | omega | (simp only[aI,aZ,aJ,aM];first | done | omega))) only[eW,beq_self_eq_true,cO,aa,Sh.size,bq,bC,Nat.reduceAdd,Nat.reduceLeDiff,aR,h1,h2,h3,c49,hcl];first | done | rfl) | rfl));try dsimp only)
 rw[vp (by simp only[eY,h1,j7,aa];rfl),vp (by simp only[eY,h2,j7,aa];rfl)]
 repeat ((with_reducible (first | apply bs | apply eX));(focus (first | (simp (disch:=(first | assumption | omega | (simp only[aI,aZ,aJ,aM];first | done | omega))) only[eW,beq_self_eq_true,cO,aa,Sh.size,bq,bC,Nat.reduceAdd,Nat.reduceLeDiff,aR,e];first | done | rfl) | rfl));try dsimp only)
theorem SW (ks:List Int) (p:Int->Bool):ks.any (fun k=>!p k) = !ks.all p:=by
 induction ks with
 | nil=>rfl
 | cons k ks ih=>rw[List.any_cons,nX,ih,Bool.not_and]
theorem C4 (z:Bool) (o:Own) (es:List AV) (m:af):eR none none m (.lst none z o es)=some (.ptr m.length 0,m++[some (Ent.obj true [.lst none z o es])]):=rfl
theorem ZI {z:Bool} {o:Own} {ar:List Int} {kz:Bool} {ko:Own} {ks:List Int} (h:eQ m s F (IA z o ar) most l) (v:Int) (hz:kz=true->ks=[]) (har:∀ a∈ar,1<=a/\a<=64) (qpN:ar.length<=16) (fL:ks.length<=1000) (hl:(l.length:Int) < most) (oT:most<=100000) :
  ∃ m' F',AC ae 34 [.ptr s 0,.int .i64 v,IA kz ko ks] m=some (.tup [.int .i64 (vt ar l v ks).1.1,.int .i64 (vt ar l v ks).1.2],m')/\eQ m' s F' (IA z o ar) most (vt ar l v ks).2/\Fr m m' F/\Gr m F F':=by
 have f3:Fr m (((m++[some (Ent.obj true [.ptr s 0])])++[some (Ent.obj true [.int .i64 v])])++[some (Ent.obj true [IA kz ko ks])]) []:=((Fr.app m _ _).snoc _).snoc _;have h3:=h.app f3;have e50:=BU h3 (by omega)
 have hs:∃ na p,af.get m s=some (Ent.obj true [IA z o ar,na,.mref p,.int .i64 most]):=by
  obtain ⟨p,na,T,h,rfl⟩:=h;exact ⟨na,p,h.hs⟩
 obtain ⟨na,p,hs⟩:=hs;have mG:=bJ hs;have bad:¬ (0<=v/\v < ar.length/\(ks.length:Int)=ar.getD v.toNat 0/\ks.all (ub ar.length l v)=true)->vt ar l v ks=((0,1),l):=fun hb=>by rw[vt,aj hb]
 by_cases sK:v < 0
 ·refine ⟨_,F,?_,by rw[bad (by omega)];exact h3,f3.mono (by simp),Gr.refl _ _⟩;rw[CN,bad (by omega)]
  repeat ((with_reducible (first | apply bs | apply eX));(focus (first | (simp (disch:=(first | assumption | omega | (simp only[aI,aZ,aJ,aM];first | done | omega))) only[eW,beq_self_eq_true,cO,aa,Sh.size,bq,bC,Nat.reduceAdd,Nat.reduceLeDiff,aR,pS,uL,C4,e50];first | done | rfl) | rfl));try dsimp only)
  rw[ig]
  repeat ((with_reducible (first | apply bs | apply eX));(focus (first | (simp (disch:=(first | assumption | omega | (simp only[aI,aZ,aJ,aM];first | done | omega))) only[eW,beq_self_eq_true,cO,aa,Sh.size,bq,bC,Nat.reduceAdd,Nat.reduceLeDiff,aR];first | done | rfl) | rfl));try dsimp only)
  rw[az,an sK]
 by_cases kr:v≥ar.length
 ·refine ⟨_,F,?_,by rw[bad (by omega)];exact h3,f3.mono (by simp),Gr.refl _ _⟩;rw[CN,bad (by omega)]
  repeat ((with_reducible (first | apply bs | apply eX));(focus (first | (simp (disch:=(first | assumption | omega | (simp only[aI,aZ,aJ,aM];first | done | omega))) only[eW,beq_self_eq_true,cO,aa,Sh.size,bq,bC,Nat.reduceAdd,Nat.reduceLeDiff,aR,pS,uL,C4,e50];first | done | rfl) | rfl));try dsimp only)
  rw[ig]
  repeat ((with_reducible (first | apply bs | apply eX));(focus (first | (simp (disch:=(first | assumption | omega | (simp only[aI,aZ,aJ,aM];first | done | omega))) only[eW,beq_self_eq_true,cO,aa,Sh.size,bq,bC,Nat.reduceAdd,Nat.reduceLeDiff,aR];first | done | rfl) | rfl));try dsimp only)
  rw[az,aj sK]
  repeat ((with_reducible (first | apply bs | apply eX));(focus (first | (simp (disch:=(first | assumption | omega | (simp only[aI,aZ,aJ,aM];first | done | omega))) only[eW,beq_self_eq_true,cO,aa,Sh.size,bq,bC,Nat.reduceAdd,Nat.reduceLeDiff,aR,hs];first | done | rfl) | rfl));try dsimp only)
  rw[az,an kr]
 obtain ⟨i,rfl⟩:=nW (by omega:0<=v);have hi:i < ar.length:=by omega
 have gY:=j6 (z:=z) (o:=o) (k:=.i64) hi;have My:ar.getD ((i:Int).toNat) 0=ar[i]:=by rw[cK,aT,bA hi,fg]
 have lY:=har ar[i] (bM hi);by_cases hk:(ks.length:Int)=ar[i]
 case neg=>
  refine ⟨_,F,?_,by rw[bad (by rw[My];omega)];exact h3,f3.mono (by simp),Gr.refl _ _⟩;rw[CN,bad (by rw[My];omega)]
  repeat ((with_reducible (first | apply bs | apply eX));(focus (first | (simp (disch:=(first | assumption | omega | (simp only[aI,aZ,aJ,aM];first | done | omega))) only[eW,beq_self_eq_true,cO,aa,Sh.size,bq,bC,Nat.reduceAdd,Nat.reduceLeDiff,aR,pS,uL,C4,e50];first | done | rfl) | rfl));try dsimp only)
  rw[ig]
  repeat ((with_reducible (first | apply bs | apply eX));(focus (first | (simp (disch:=(first | assumption | omega | (simp only[aI,aZ,aJ,aM];first | done | omega))) only[eW,beq_self_eq_true,cO,aa,Sh.size,bq,bC,Nat.reduceAdd,Nat.reduceLeDiff,aR];first | done | rfl) | rfl));try dsimp only)
  rw[az,aj sK]
  repeat ((with_reducible (first | apply bs | apply eX));(focus (first | (simp (disch:=(first | assumption | omega | (simp only[aI,aZ,aJ,aM];first | done | omega))) only[eW,beq_self_eq_true,cO,aa,Sh.size,bq,bC,Nat.reduceAdd,Nat.reduceLeDiff,aR,hs];first | done | rfl) | rfl));try dsimp only)
  rw[az,aj kr]
  repeat ((with_reducible (first | apply bs | apply eX));(focus (first | (simp (disch:=(first | assumption | omega | (simp only[aI,aZ,aJ,aM];first | done | omega))) only[eW,beq_self_eq_true,cO,aa,Sh.size,bq,bC,Nat.reduceAdd,Nat.reduceLeDiff,aR,hs,gY];first | done | rfl) | rfl));try dsimp only)
  rw[az,an hk]
 have hne:ks≠[]:=fun e=>by rw[e] at hk;simp at hk;omega
 have hzf:kz=false:=by cases kz with
  | false=>rfl
  | true=>exact absurd (hz rfl) hne
 obtain ⟨m4,e47,f4⟩:=PG (m:=(((m++[some (Ent.obj true [.ptr s 0])])++[some (Ent.obj true [.int .i64 i])])++[some (Ent.obj true [IA kz ko ks])])) (z:=kz) (o:=ko) (ks:=ks) (g:=97) (caps:=[.ptr m.length 0,.ptr (m.length+1) 0]) (p:=fun k=>!ub ar.length l i k) (by omega) rfl rfl rfl
  (fun m1 k fr=>ZS (h3.app fr) (by rw[fr.get _ (by simp) (by simp)];exact (by simp (disch:=(first | assumption | omega | (simp only[aI,aZ,aJ,aM];first | done | omega))) only[gK,cn,bV,cF,dM];first | done | rfl)) (by rw[fr.get _ (by simp) (by simp)];exact (by simp (disch:=(first | assumption | omega | (simp only[aI,aZ,aJ,aM];first | done | omega))) only[gK,cn,bV,cF,dM];first | done | rfl)))
 rw[SW] at e47;have h4:=h3.app f4;have f34:Fr m m4 []:=Fr.trans f3 f4 fun x hx=>by cases hx
 have g1:m4.get m.length=some (Ent.obj true [.ptr s 0]):=by rw[f4.get _ (by simp) (by simp)];exact (by simp (disch:=(first | assumption | omega | (simp only[aI,aZ,aJ,aM];first | done | omega))) only[gK,cn,bV,cF,dM];first | done | rfl)
 have g2:m4.get (m.length+1)=some (Ent.obj true [.int .i64 i]):=by rw[f4.get _ (by simp) (by simp)];exact (by simp (disch:=(first | assumption | omega | (simp only[aI,aZ,aJ,aM];first | done | omega))) only[gK,cn,bV,cF,dM];first | done | rfl)
 have g3:m4.get (m.length+1+1)=some (Ent.obj true [IA kz ko ks]):=by rw[f4.get _ (by simp) (by simp)];exact (by simp (disch:=(first | assumption | omega | (simp only[aI,aZ,aJ,aM];first | done | omega))) only[gK,cn,bV,cF,dM];first | done | rfl)
 by_cases ha:ks.all (ub ar.length l i)=true
 case neg=>
  have Mv:ks.all (ub ar.length l i)=false:=by simpa using ha
  refine ⟨_,F,?_,by rw[bad (by rw[Mv];simp)];exact h4,f34.mono (by simp),Gr.refl _ _⟩;rw[CN,bad (by rw[Mv];simp)]
  repeat ((with_reducible (first | apply bs | apply eX));(focus (first | (simp (disch:=(first | assumption | omega | (simp only[aI,aZ,aJ,aM];first | done | omega))) only[eW,beq_self_eq_true,cO,aa,Sh.size,bq,bC,Nat.reduceAdd,Nat.reduceLeDiff,aR,pS,uL,C4,e50];first | done | rfl) | rfl));try dsimp only)
  rw[ig]
  repeat ((with_reducible (first | apply bs | apply eX));(focus (first | (simp (disch:=(first | assumption | omega | (simp only[aI,aZ,aJ,aM];first | done | omega))) only[eW,beq_self_eq_true,cO,aa,Sh.size,bq,bC,Nat.reduceAdd,Nat.reduceLeDiff,aR];first | done | rfl) | rfl));try dsimp only)
  rw[az,aj sK]
  repeat ((with_reducible (first | apply bs | apply eX));(focus (first | (simp (disch:=(first | assumption | omega | (simp only[aI,aZ,aJ,aM];first | done | omega))) only[eW,beq_self_eq_true,cO,aa,Sh.size,bq,bC,Nat.reduceAdd,Nat.reduceLeDiff,aR,hs];first | done | rfl) | rfl));try dsimp only)
  rw[az,aj kr]
  repeat ((with_reducible (first | apply bs | apply eX));(focus (first | (simp (disch:=(first | assumption | omega | (simp only[aI,aZ,aJ,aM];first | done | omega))) only[eW,beq_self_eq_true,cO,aa,Sh.size,bq,bC,Nat.reduceAdd,Nat.reduceLeDiff,aR,hs,gY];first | done | rfl) | rfl));try dsimp only)
  rw[az,aj (by omega)]
  repeat ((with_reducible (first | apply bs | apply eX));(focus (first | (simp (disch:=(first | assumption | omega | (simp only[aI,aZ,aJ,aM];first | done | omega))) only[eW,beq_self_eq_true,cO,aa,Sh.size,bq,bC,Nat.reduceAdd,Nat.reduceLeDiff,aR,e47];first | done | rfl) | rfl));try dsimp only)
  rw[Mv,nT,mJ]
 have good:vt ar l i ks=(((nH l i ks).1,0),(nH l i ks).2):=by rw[vt,an ⟨by omega,by omega,by rw[My];exact hk,ha⟩]
 have hn:(gU i ks).ok:=by
  refine .inr ⟨by simp only[gU];omega,by simp only[gU];omega,rfl,fun k bL=>?_,by simp only[gU];omega⟩;have:=fQ.1 ha k bL;unfold ub at this;simp only[bT,nt] at this;omega
 obtain ⟨m',F',e52,k1,k2,k3⟩:=PH (g:=98) (caps:=[.ptr m.length 0,.ptr (m.length+1) 0,.ptr (m.length+1+1) 0]) (id:=(nH l i ks).1) (l':=(nH l i ks).2) h4 rfl rfl rfl
  (fun m1 fr=>ZT (h4.app fr) (by rw[fr.get _ (bJ g1) (by simp)];exact g1) (by rw[fr.get _ (bJ g2) (by simp)];exact g2) (by rw[fr.get _ (bJ g3) (by simp)];exact g3) hne hzf hn hl oT)
 refine ⟨m',F',?_,by rw[good];exact k1,Fr.trans (f34.mono (by simp)) k2 fun _ h=>.inl h,Gr.trans f34.len (Gr.refl m F) k3⟩;rw[CN,good]
 repeat ((with_reducible (first | apply bs | apply eX));(focus (first | (simp (disch:=(first | assumption | omega | (simp only[aI,aZ,aJ,aM];first | done | omega))) only[eW,beq_self_eq_true,cO,aa,Sh.size,bq,bC,Nat.reduceAdd,Nat.reduceLeDiff,aR,pS,uL,C4,e50];first | done | rfl) | rfl));try dsimp only)
 rw[ig]
 repeat ((with_reducible (first | apply bs | apply eX));(focus (first | (simp (disch:=(first | assumption | omega | (simp only[aI,aZ,aJ,aM];first | done | omega))) only[eW,beq_self_eq_true,cO,aa,Sh.size,bq,bC,Nat.reduceAdd,Nat.reduceLeDiff,aR];first | done | rfl) | rfl));try dsimp only)
 rw[az,aj sK]
 repeat ((with_reducible (first | apply bs | apply eX));(focus (first | (simp (disch:=(first | assumption | omega | (simp only[aI,aZ,aJ,aM];first | done | omega))) only[eW,beq_self_eq_true,cO,aa,Sh.size,bq,bC,Nat.reduceAdd,Nat.reduceLeDiff,aR,hs];first | done | rfl) | rfl));try dsimp only)
 rw[az,aj kr]
 repeat ((with_reducible (first | apply bs | apply eX));(focus (first | (simp (disch:=(first | assumption | omega | (simp only[aI,aZ,aJ,aM];first | done | omega))) only[eW,beq_self_eq_true,cO,aa,Sh.size,bq,bC,Nat.reduceAdd,Nat.reduceLeDiff,aR,hs,gY];first | done | rfl) | rfl));try dsimp only)
 rw[az,aj (by omega)]
 repeat ((with_reducible (first | apply bs | apply eX));(focus (first | (simp (disch:=(first | assumption | omega | (simp only[aI,aZ,aJ,aM];first | done | omega))) only[eW,beq_self_eq_true,cO,aa,Sh.size,bq,bC,Nat.reduceAdd,Nat.reduceLeDiff,aR,e47];first | done | rfl) | rfl));try dsimp only)
 rw[ha,jN,ig]
 repeat ((with_reducible (first | apply bs | apply eX));(focus (first | (simp (disch:=(first | assumption | omega | (simp only[aI,aZ,aJ,aM];first | done | omega))) only[eW,beq_self_eq_true,cO,aa,Sh.size,bq,bC,Nat.reduceAdd,Nat.reduceLeDiff,aR,g1,e52];first | done | rfl) | rfl));try dsimp only)
end
end Go.Ab
namespace Go.Ab
theorem Bn {α:Type} {l:List α} (h:l.Nodup) {i j:Nat} (hi:i < l.length) (hj:j < l.length) (e:l[i]=l[j]):i=j:=by
 have hp:=List.pairwise_iff_getElem.1 h
 rcases Nat.lt_trichotomy i j with hh | hh | hh
 ·exact absurd e (hp i j hi hj hh)
 ·exact hh
 ·exact absurd e.symm (hp j i hj hi hh)
structure GoodL (ar:List Int) (l:List ND):Prop where
 ok:∀ n∈l,n.ok
 nd:l.Nodup
 var:∀ (i:Nat) (h:i < l.length),0<=l[i].var->l[i].var < ar.length/\(l[i].kids.length:Int)=ar.getD l[i].var.toNat 0
 kid:∀ (i:Nat) (h:i < l.length),0<=l[i].var->∀ k∈l[i].kids,∃ t:Nat,k=t/\t < i/\∀ (ht:t < l.length),l[i].var < ft ar.length l[t]
 dif:∀ (i:Nat) (h:i < l.length),0<=l[i].var->∃ k∈l[i].kids,k≠l[i].kids.headD 0
def uj (l:List ND) (a:Nat->Nat):Nat->Nat->Int
 | 0,_=>0
 | n+1,i=>match l[i]? with
  | none=>0
  | some x=>if x.var < 0 then x.leaf else uj l a n (x.kids.getD (a x.var.toNat) 0).toNat
def S (l:List ND) (a:Nat->Nat) (i:Nat):Int:=uj l a (i+1) i
def iW (ar:List Int) (a:Nat->Nat):Prop:=∀ v,v < ar.length->(a v:Int) < ar.getD v 0
def upd (a:Nat->Nat) (v k:Nat):Nat->Nat:=fun w=>if w=v then k else a w
theorem iW.upd {ar:List Int} {a:Nat->Nat} (h:iW ar a) {v k:Nat} (hk:(k:Int) < ar.getD v 0):iW ar (upd a v k):=fun w hw=>by
 unfold Ab.upd
 split
 ·rename_i e;rw[e];exact hk
 ·exact h w hw
section
variable {ar:List Int} {l:List ND}
theorem oD (g:GoodL ar l) {i:Nat} (hi:i < l.length) (hv:0<=l[i].var) {k:Nat} (hk:(k:Int) < ar.getD l[i].var.toNat 0) :
  ∃ t:Nat,l[i].kids.getD k 0=t/\t < i/\∀ (ht:t < l.length),l[i].var < ft ar.length l[t]:=by
 have hl:=(g.var i hi hv).2;have fL:k < l[i].kids.length:=by omega
 rw[aT,bA fL,fg];exact g.kid i hi hv _ (bM fL)
theorem YA (g:GoodL ar l) {a:Nat->Nat} (ha:iW ar a):∀ (n i m:Nat),i < l.length->i < n->i < m->uj l a n i=uj l a m i
 | 0,i,m,_,h,_=>by omega
 | n+1,i,0,_,_,h=>by omega
 | n+1,i,m+1,hi,_,_=>by
  simp only[uj,bA hi]
  by_cases hv:l[i].var < 0
  ·rw[an hv,an hv]
  ·rw[aj hv,aj hv];obtain ⟨kr,tT⟩:=g.var i hi (by omega);obtain ⟨t,e,ht,_⟩:=oD g hi (by omega) (ha l[i].var.toNat (by omega));rw[e,cK];exact YA g ha n t m (by omega) (by omega) (by omega)
theorem xR {a:Nat->Nat} {i:Nat} (hi:i < l.length) (hv:l[i].var < 0):S l a i=l[i].leaf:=by
 simp only[S,uj,bA hi,an hv]
theorem CL (g:GoodL ar l) {a:Nat->Nat} (ha:iW ar a) {i:Nat} (hi:i < l.length) (hv:¬ l[i].var < 0):S l a i=S l a (l[i].kids.getD (a l[i].var.toNat) 0).toNat:=by
 obtain ⟨kr,tT⟩:=g.var i hi (by omega);obtain ⟨t,e,ht,_⟩:=oD g hi (by omega) (ha l[i].var.toNat (by omega));rw[e,cK];unfold S;rw[uj];simp only[bA hi,aj hv,e,cK];exact YA g ha _ _ _ (by omega) (by omega) (by omega)
theorem xQ (g:GoodL ar l) {a:Nat->Nat} (ha:iW ar a) {v k:Nat} (hk:(k:Int) < ar.getD v 0):∀ (i:Nat) (hi:i < l.length),(v:Int) < ft ar.length l[i]->S l (upd a v k) i=S l a i:=by
 intro i
 induction i using Nat.strongRecOn with
 | ind i ih=>
  intro hi hv
  by_cases hn:l[i].var < 0
  ·rw[xR hi hn,xR hi hn]
  ·rw[ft,an (by omega)] at hv;have hne:l[i].var.toNat≠v:=by omega
   have e:upd a v k l[i].var.toNat=a l[i].var.toNat:=by unfold upd;rw[aj hne]
   rw[CL g (ha.upd hk) hi hn,CL g ha hi hn,e];obtain ⟨kr,tT⟩:=g.var i hi (by omega);obtain ⟨t,e,ht,h2⟩:=oD g hi (by omega) (ha l[i].var.toNat (by omega));rw[e,cK];exact ih t ht (by omega) (by have:=h2 (by omega);omega)
theorem CM (g:GoodL ar l) {a:Nat->Nat} (ha:iW ar a) {i:Nat} (hi:i < l.length) {v k:Nat} (hv:l[i].var=v) (hk:(k:Int) < ar.getD v 0):S l (upd a v k) i=S l a (l[i].kids.getD k 0).toNat:=by
 have sN:l[i].var.toNat=v:=by omega
 rw[CL g (ha.upd hk) hi (by omega),sN];have e:upd a v k v=k:=by unfold upd;rw[an rfl]
 rw[e];obtain ⟨t,e,ht,h2⟩:=oD g hi (by omega) (k:=k) (by rw[sN];exact hk);rw[e,cK];exact xQ g ha hk t (by omega) (by have:=h2 (by omega);omega)
theorem Wl {x y:List Int} (hl:x.length=y.length) (h:∀ k,k < x.length->x.getD k 0=y.getD k 0):x=y:=by
 apply List.ext_getElem hl;intro i h1 h2;have:=h i h1
 rwa [aT,aT,bA h1,bA h2] at this
theorem Oi (g:GoodL ar l) (h1:∀ x∈ar,1<=x) {i j:Nat} (hi:i < l.length) (hv:0<=l[i].var) (h:∀ k:Nat,(k:Int) < ar.getD l[i].var.toNat 0->l[i].kids.getD k 0=j):False:=by
 obtain ⟨k,hk,hne⟩:=g.dif i hi hv;have hl:=(g.var i hi hv).2
 have all:∀ k∈l[i].kids,k=j:=fun k hk=>by
  obtain ⟨t,ht,e⟩:=pM hk;have:=h t (by omega);rw[aT,bA ht,fg] at this;rw[<- e,this]
 apply hne;rw[all k hk]
 cases hh:l[i].kids with
 | nil=>rw[hh] at hk;cases hk
 | cons x y=>rw[List.headD_cons];exact (all x (by rw[hh];exact fJ)).symm
theorem C1 (h1:∀ x∈ar,1<=x):iW ar fun _=>0:=fun v hv=>by
 have:=h1 (ar[v]) (bM hv);rw[aT,bA hv,fg];show ((0:Nat):Int) < _;omega
theorem canon (g:GoodL ar l) (h1:∀ x∈ar,1<=x):∀ (n i j:Nat) (hi:i < l.length) (hj:j < l.length),i+j < n->(∀ a,iW ar a->S l a i=S l a j)->i=j:=by
 intro n
 induction n with
 | zero=>intro i j _ _ h;omega
 | succ n ih=>
  have half:∀ (i j:Nat) (hi:i < l.length) (hj:j < l.length),i+j < n+1->(∀ a,iW ar a->S l a i=S l a j)->¬ l[i].var < 0->l[i].var < ft ar.length l[j]->False:=by
   intro i j hi hj hn h hv hlt;refine Oi g h1 hi (j:=j) (by omega) fun k hk=>?_;obtain ⟨t,e,ht,h2⟩:=oD g hi (by omega) hk;have sN:((l[i].var.toNat:Nat):Int)=l[i].var:=by omega
   rw[e];congr 1;refine ih t j (by omega) hj (by omega) fun a ha=>?_;have e1:=CM g ha hi (v:=l[i].var.toNat) (k:=k) sN.symm hk;rw[e,cK] at e1;rw[<- e1,h _ (ha.upd hk)];exact xQ g ha hk j hj (by omega)
  intro i j hi hj hn h
  by_cases D0:l[i].var < 0
  ·by_cases sL:l[j].var < 0
   ·have hs:=h _ (C1 h1);rw[xR hi D0,xR hj sL] at hs
    have e:l[i]=l[j]:=by
     have oi:=g.ok _ (bM hi);have oj:=g.ok _ (bM hj)
     rcases oi with ⟨a1,a2,_⟩ | ⟨a1,_⟩
     ·rcases oj with ⟨b1,b2,_⟩ | ⟨b1,_⟩
      ·generalize l[i]=x at *;generalize l[j]=y at *;obtain ⟨xv,xk,xl⟩:=x;obtain ⟨yv,yk,yl⟩:=y;simp only at a1 a2 b1 b2 hs;rw[a1,a2,b1,b2,hs]
      ·omega
     ·omega
    exact Bn g.nd hi hj e
   ·refine (half j i hj hi (by omega) (fun a ha=>(h a ha).symm) sL ?_).elim;rw[ft,aj (by omega)];exact (g.var j hj (by omega)).1
  ·by_cases hlt:l[i].var < ft ar.length l[j]
   ·exact (half i j hi hj hn h D0 hlt).elim
   ·have sL:¬ l[j].var < 0:=fun hh=>hlt (by rw[ft,aj (by omega)];exact (g.var i hi (by omega)).1);rw[ft,an (by omega)] at hlt
    by_cases hlt2:l[j].var < l[i].var
    ·exact (half j i hj hi (by omega) (fun a ha=>(h a ha).symm) sL (by rw[ft,an (by omega)];exact hlt2)).elim
    ·have hv:l[i].var=l[j].var:=by omega
     have vi:=g.var i hi (by omega);have vj:=g.var j hj (by omega)
     have hk:l[i].kids=l[j].kids:=by
      refine Wl (by rw[hv] at vi;omega) fun k hk=>?_;have jt:(k:Int) < ar.getD l[i].var.toNat 0:=by omega
      have DF:(k:Int) < ar.getD l[j].var.toNat 0:=by rw[<- hv];exact jt
      obtain ⟨t,e,ht,h2⟩:=oD g hi (by omega) jt;obtain ⟨u,e',hu,iz⟩:=oD g hj (by omega) DF;rw[e,e'];congr 1;refine ih t u (by omega) (by omega) (by omega) fun a ha=>?_;have e1:=CM g ha hi (v:=l[i].var.toNat) (k:=k) (by omega) jt;have e2:=CM g ha hj (v:=l[i].var.toNat) (k:=k) (by omega) jt;rw[e,cK] at e1;rw[e',cK] at e2;rw[<- e1,<- e2,h _ (ha.upd jt)]
     have e:l[i]=l[j]:=by
      have oi:=g.ok _ (bM hi);have oj:=g.ok _ (bM hj)
      have li:l[i].leaf=0:=by
       rcases oi with ⟨a1,_⟩ | ⟨_,_,a3,_⟩
       ·omega
       ·exact a3
      have lj:l[j].leaf=0:=by
       rcases oj with ⟨a1,_⟩ | ⟨_,_,a3,_⟩
       ·omega
       ·exact a3
      generalize l[i]=x at *;generalize l[j]=y at *;obtain ⟨xv,xk,xl⟩:=x;obtain ⟨yv,yk,yl⟩:=y;simp only at hv hk li lj;rw[hv,hk,li,lj]
     exact Bn g.nd hi hj e
theorem GY (g:GoodL ar l) (r:List ND) {a:Nat->Nat} (ha:iW ar a):∀ (i:Nat),i < l.length->S (l++r) a i=S l a i:=by
 have key:∀ (n i:Nat),i < l.length->i < n->uj (l++r) a n i=uj l a n i:=by
  intro n
  induction n with
  | zero=>intro i _ h;omega
  | succ n ih=>
   intro i hi _;simp only[uj,nl hi,bA hi]
   by_cases hv:l[i].var < 0
   ·rw[an hv,an hv]
   ·rw[aj hv,aj hv];obtain ⟨kr,tT⟩:=g.var i hi (by omega);obtain ⟨t,e,ht,_⟩:=oD g hi (by omega) (ha l[i].var.toNat (by omega));rw[e,cK];exact ih t (by omega) (by omega)
 intro i hi;exact key _ i hi (by omega)
theorem Mo:GoodL ar []:=⟨by simp,by simp,fun i h=>by simp at h,fun i h=>by simp at h,fun i h=>by simp at h⟩
theorem qkL (g:GoodL ar l) {n:ND} (hn:n.ok) (hne:n∉l) (h1:0<=n.var->n.var < ar.length/\(n.kids.length:Int)=ar.getD n.var.toNat 0/\(∀ k∈n.kids,∃ t:Nat,k=t/\∃ ht:t < l.length,n.var < ft ar.length l[t])/\∃ k∈n.kids,k≠n.kids.headD 0):GoodL ar (l++[n]):=by
 have old:∀ i (h:i < (l++[n]).length),(∃ h':i < l.length,(l++[n])[i]=l[i])\/(i=l.length/\(l++[n])[i]=n):=fun i h=>by
  by_cases hi:i < l.length
  ·exact .inl ⟨hi,List.getElem_append_left hi⟩
  ·have:i=l.length:=by simp at h;omega
   subst this;exact .inr ⟨rfl,by simp⟩
 refine ⟨fun x hx=>?_,?_,fun i h hv=>?_,fun i h hv k hk=>?_,fun i h hv=>?_⟩
 ·rcases im.1 hx with hx | hx
  ·exact g.ok x hx
  ·obtain rfl:x=n:=by simpa using hx
   exact hn
 ·rw[List.nodup_append]
  exact ⟨g.nd,by simp,fun a ha b hb e=>by
   obtain rfl:b=n:=by simpa using hb
   exact hne (e▸ha)⟩
 ·rcases old i h with ⟨h',e⟩ | ⟨_,e⟩
  ·rw[e] at hv ⊢;exact g.var i h' hv
  ·rw[e] at hv ⊢;exact ⟨(h1 hv).1,(h1 hv).2.1⟩
 ·rcases old i h with ⟨h',e⟩ | ⟨cq,e⟩
  ·rw[e] at hv hk ⊢;obtain ⟨t,a1,a2,a3⟩:=g.kid i h' hv k hk;refine ⟨t,a1,a2,fun ht=>?_⟩;rw[List.getElem_append_left (by omega)];exact a3 (by omega)
  ·rw[e] at hv hk ⊢;obtain ⟨t,a1,ht,a3⟩:=(h1 hv).2.2.1 k hk;refine ⟨t,a1,by omega,fun qy=>?_⟩;rw[List.getElem_append_left ht];exact a3
 ·rcases old i h with ⟨h',e⟩ | ⟨_,e⟩
  ·rw[e] at hv ⊢;exact g.dif i h' hv
  ·rw[e] at hv ⊢;exact (h1 hv).2.2.2
theorem VO (n:ND) (l:List ND):∃ r,jb l n=l++r/\r.length<=1/\∃ h:l.idxOf n < (jb l n).length,(jb l n)[l.idxOf n]=n:=by
 unfold jb
 by_cases hm:n∈l
 ·rw[an hm];exact ⟨[],by simp,by simp,List.idxOf_lt_length_of_mem hm,List.getElem_idxOf _⟩
 ·rw[aj hm];have e:=D4 hm;refine ⟨[n],rfl,by simp,by rw[e];simp,?_⟩;simp[e]
theorem Up (g:GoodL ar l) {n:ND} (hn:n.ok) (h1:0<=n.var->n.var < ar.length/\(n.kids.length:Int)=ar.getD n.var.toNat 0/\(∀ k∈n.kids,∃ t:Nat,k=t/\∃ ht:t < l.length,n.var < ft ar.length l[t])/\∃ k∈n.kids,k≠n.kids.headD 0):GoodL ar (jb l n):=by
 unfold jb
 split
 ·exact g
 ·rename_i hm;exact qkL g hn hm h1
end
end Go.Ab
namespace Go.Ab
def b9:List Int->Nat
 | []=>1
 | n::r=>n.toNat * b9 r
def p7:List Int->Nat->(Nat->Nat)->Nat
 | [],_,_=>0
 | n::r,v,a=>a v * b9 r+p7 r (v+1) a
theorem TQ {ar:List Int} {v:Nat} (hv:v < ar.length):ar.drop v=ar.getD v 0::ar.drop (v+1):=by
 rw[aT,bA hv,fg];exact kP hv
theorem A9 {ar:List Int} {v:Nat} (hv:v < ar.length) (a:Nat->Nat):p7 (ar.drop v) v a=a v * b9 (ar.drop (v+1))+p7 (ar.drop (v+1)) (v+1) a:=by
 rw[TQ hv,p7]
theorem w5 {ar:List Int} {v:Nat} (hv:v < ar.length):b9 (ar.drop v)=(ar.getD v 0).toNat * b9 (ar.drop (v+1)):=by
 rw[TQ hv,b9]
theorem Im {ar:List Int} {a:Nat->Nat} (ha:iW ar a):∀ (d v:Nat),v+d=ar.length->p7 (ar.drop v) v a < b9 (ar.drop v)
 | 0,v,h=>by rw[jA (by omega)];simp[p7,b9]
 | d+1,v,h=>by
  have hv:v < ar.length:=by omega
  have ih:=Im ha d (v+1) (by omega);have hk:=ha v hv;rw[A9 hv,w5 hv];have h2:a v+1<=(ar.getD v 0).toNat:=by omega
  calc a v * b9 (ar.drop (v+1))+p7 (ar.drop (v+1)) (v+1) a < a v * b9 (ar.drop (v+1))+b9 (ar.drop (v+1)):=by omega
   _=(a v+1) * b9 (ar.drop (v+1)):=by rw[gX,qW]
   _<=_:=iO _ h2
theorem NC {ar:List Int} {a:Nat->Nat} {w k:Nat}:∀ (d v:Nat),v+d=ar.length->w < v->p7 (ar.drop v) v (upd a w k)=p7 (ar.drop v) v a
 | 0,v,h,_=>by rw[jA (by omega)];rfl
 | d+1,v,h,hw=>by
  have hv:v < ar.length:=by omega
  rw[A9 hv,A9 hv,NC d (v+1) (by omega) (by omega)];have:upd a w k v=a v:=by unfold upd;rw[aj (by omega)]
  rw[this]
theorem VL {ar:List Int} (h1:∀ x∈ar,1<=x):∀ (d v i:Nat),v+d=ar.length->i < b9 (ar.drop v)->∃ a,iW ar a/\p7 (ar.drop v) v a=i
 | 0,v,i,h,hi=>by
  rw[jA (by omega)] at hi ⊢;simp only[b9] at hi;exact ⟨_,C1 h1,by simp only[p7];omega⟩
 | d+1,v,i,h,hi=>by
  have hv:v < ar.length:=by omega
  rw[w5 hv] at hi;have iU:0 < b9 (ar.drop (v+1)):=oJ fun e=>by rw[e] at hi;omega
  obtain ⟨a,ha,e⟩:=VL h1 d (v+1) (i % b9 (ar.drop (v+1))) (by omega) (kf _ iU);have hk:i / b9 (ar.drop (v+1)) < (ar.getD v 0).toNat:=Nat.div_lt_of_lt_mul (by rw[cP];exact hi);have HT:=vR i (b9 (ar.drop (v+1)));generalize i / b9 (ar.drop (v+1))=q at hk HT;refine ⟨upd a v q,ha.upd (by omega),?_⟩;rw[A9 hv,NC d (v+1) (by omega) (by omega),e];have:upd a v q v=q:=by unfold upd;rw[an rfl]
  rw[this,cP];exact HT
def part (t:List Int) (n k:Nat):List Int:=(t.drop (k * n)).take n
theorem part_len {t:List Int} {n k a:Nat} (ht:t.length=a * n) (hk:k < a):(part t n k).length=n:=by
 unfold part;rw[ji,qS,ht]
 have:k * n+n<=a * n:=by
  have:=iO n (show k+1<=a by omega)
  rwa [gX,qW] at this
 omega
theorem XD {t:List Int} {n k r:Nat} (hr:r < n):(part t n k).getD r 0=t.getD (k * n+r) 0:=by
 unfold part;simp only[aT,qo,an hr,rV]
theorem qnt {t:List Int} {n k:Nat}:∀ x∈part t n k,x∈t:=fun x hx=>List.drop_subset _ _ (List.take_subset _ _ hx)
structure TabV (ar:List Int) (l:List ND) (id v:Nat) (t:List Int):Prop where
 len:t.length=b9 (ar.drop v)
 lt:id < l.length
 top:∀ h:id < l.length,(v:Int)<=ft ar.length l[id]
 val:∀ a,iW ar a->S l a id=t.getD (p7 (ar.drop v) v a) 0
theorem TabV.app {ar:List Int} {l:List ND} {id v:Nat} {t:List Int} (g:GoodL ar l) (h:TabV ar l id v t) (r:List ND):TabV ar (l++r) id v t:=
 ⟨h.len,by have:=h.lt;simp;omega,fun hh=>by rw[List.getElem_append_left h.lt];exact h.top h.lt,fun a ha=>by rw[GY g r ha id h.lt];exact h.val a ha⟩
theorem qo7 {ar:List Int} {l:List ND} {i j v:Nat} {t:List Int} (g:GoodL ar l) (h1:∀ x∈ar,1<=x) (hi:TabV ar l i v t) (hj:TabV ar l j v t):i=j:=
 canon g h1 _ i j hi.lt hj.lt (Nat.lt_succ_self _) fun a ha=>(hi.val a ha).trans (hj.val a ha).symm
section
variable {ar:List Int} {l:List ND}
theorem Xf (g:GoodL ar l) (h1:∀ x∈ar,1<=x/\x<=64) (fC:ar.length<=16) {v:Nat} (hv:v < ar.length) {ks:List Nat} (hl:(ks.length:Int)=ar.getD v 0) (hk:∀ k∈ks,∃ h:k < l.length,(v:Int) < ft ar.length l[k]) (fq:l.length<=100000) :
  ∃ r id,nH l v (ks.map Int.ofNat)=(((id:Nat):Int),l++r)/\r.length<=1/\(ks.length=1->r=[])/\GoodL ar (l++r)/\∃ h:id < (l++r).length,(v:Int)<=ft ar.length (l++r)[id]/\∀ a,iW ar a->S (l++r) a id=S l a (ks.getD (a v) 0):=by
 have oh:=h1 (ar[v]) (bM hv);have aU:ar.getD v 0=ar[v]:=by rw[aT,bA hv,fg]
 rw[aU] at hl
 obtain ⟨k0,kt,rfl⟩:∃ k0 kt,ks=k0::kt:=by
  cases ks with
  | nil=>simp at hl;omega
  | cons k0 kt=>exact ⟨k0,kt,rfl⟩
 rw[fV,Xd];obtain ⟨uZ,qpP⟩:=hk k0 fJ
 by_cases hall:((Int.ofNat k0::kt.map Int.ofNat).all fun k=>k == Int.ofNat k0)=true
 ·rw[an hall]
  refine ⟨[],k0,by rw[bP];rfl,by simp,fun _=>rfl,by rw[bP];exact g,by rw[bP];exact uZ,?_,fun a ha=>?_⟩
  ·simp only[bP];omega
  ·have hlt:a v < (k0::kt).length:=by have:=ha v hv;rw[aU] at this;omega
   have:(k0::kt).getD (a v) 0=k0:=by
    rw[aT,bA hlt,fg];have h2:=fQ.1 hall (Int.ofNat (k0::kt)[a v]) (by rw[<- fV];exact List.mem_map_of_mem (bM hlt));exact Int.ofNat.inj (by simpa using h2)
   rw[this,bP]
 ·rw[aj hall]
  have gh:∀ k∈(Int.ofNat k0::kt.map Int.ofNat),∃ t:Nat,k=t/\∃ ht:t < l.length,(v:Int) < ft ar.length l[t]:=fun k bL=>by
   rw[<- fV] at bL;obtain ⟨t,ht,rfl⟩:=iX.1 bL;exact ⟨t,rfl,hk t ht⟩
  have be:(gU v (Int.ofNat k0::kt.map Int.ofNat)).ok:=by
   refine .inr ⟨by simp only[gU];omega,by simp only[gU];omega,rfl,fun k bL=>?_,?_⟩
   ·obtain ⟨t,rfl,ht,_⟩:=gh k bL;omega
   ·simp only[gU,aJ,bU];simp only[aJ] at hl;omega
  obtain ⟨r,er,hr,ru,hid⟩:=VO (gU v (Int.ofNat k0::kt.map Int.ofNat)) l
  have gi:GoodL ar (jb l (gU v (Int.ofNat k0::kt.map Int.ofNat))):=by
   refine Up g be fun _=>⟨by simp only[gU];omega,?_,gh,?_⟩
   ·simp only[gU,aJ,bU,cK];rw[aU];simpa using hl
   ·simp only[gU];rw[Bool.not_eq_true,List.all_eq_false] at hall;obtain ⟨k,bL,hne⟩:=hall;exact ⟨k,bL,by simpa using hne⟩
  rw[er] at gi ru ⊢
  have hid:(l++r)[l.idxOf (gU v (Int.ofNat k0::kt.map Int.ofNat))]=gU v (Int.ofNat k0::kt.map Int.ofNat):=by
   have:∀ (y:List ND) (h:l.idxOf (gU v (Int.ofNat k0::kt.map Int.ofNat)) < y.length),jb l (gU v (Int.ofNat k0::kt.map Int.ofNat))=y->y[l.idxOf (gU v (Int.ofNat k0::kt.map Int.ofNat))]=gU v (Int.ofNat k0::kt.map Int.ofNat):=fun y h e=>by subst e;exact hid
   exact this _ ru er
  refine ⟨r,_,rfl,hr,fun AY=>?_,gi,ru,?_,fun a ha=>?_⟩
  ·exfalso;have:kt=[]:=by simpa using AY
   rw[this] at hall;simp at hall
  ·rw[hid,ft,an (by simp only[gU];omega)];exact qQ _
  ·have e:=CL gi ha ru (by rw[hid];simp only[gU];omega);rw[hid] at e;have hlt:a v < (k0::kt).length:=by have:=ha v hv;rw[aU] at this;omega
   rw[e,show (gU (↑v) (Int.ofNat k0::kt.map Int.ofNat)).kids=Int.ofNat k0::kt.map Int.ofNat from rfl,show (gU (↑v) (Int.ofNat k0::kt.map Int.ofNat)).var=v from rfl,cK]
   have e2:(Int.ofNat k0::kt.map Int.ofNat).getD (a v) 0=(((k0::kt).getD (a v) 0:Nat):Int):=by
    rw[<- fV,aT,n0,aT,bA hlt];rfl
   rw[e2,cK];refine GY g r ha _ ?_;rw[aT,bA hlt,fg];exact (hk _ (bM hlt)).1
theorem Wd (g:GoodL ar l) {x:Int} (hx:0<=x/\x<=2147483647):∃ r,jb l (iC x)=l++r/\r.length<=1/\GoodL ar (l++r)/\TabV ar (l++r) (l.idxOf (iC x)) ar.length [x]:=by
 obtain ⟨r,er,hr,ru,hid⟩:=VO (iC x) l;have gi:GoodL ar (jb l (iC x)):=Up g (Wc hx) fun h=>by simp[iC] at h
 rw[er] at gi;have MO:l.idxOf (iC x) < (l++r).length:=by rw[<- er];exact ru
 have MN:(l++r)[l.idxOf (iC x)]=iC x:=by
  have:∀ (y:List ND) (h:l.idxOf (iC x) < y.length),jb l (iC x)=y->y[l.idxOf (iC x)]=iC x:=fun y h e=>by subst e;exact hid
  exact this _ MO er
 refine ⟨r,er,hr,gi,⟨by rw[List.drop_length];rfl,MO,fun _=>?_,fun a ha=>?_⟩⟩
 ·rw[MN,ft,aj (by simp[iC])];exact qQ _
 ·rw[xR MO (by rw[MN];simp[iC]),MN,List.drop_length];rfl
theorem qo5 (g:GoodL ar l) (h1:∀ x∈ar,1<=x/\x<=64) (fC:ar.length<=16) {v:Nat} (hv:v < ar.length) {ks:List Nat} {t:List Int} (hl:(ks.length:Int)=ar.getD v 0) (ht:t.length=b9 (ar.drop v)) (hk:∀ (k:Nat) (h:k < ks.length),TabV ar l ks[k] (v+1) (part t (b9 (ar.drop (v+1))) k)) (fq:l.length<=100000) :
  ∃ r id,nH l v (ks.map Int.ofNat)=(((id:Nat):Int),l++r)/\r.length<=1/\(ks.length=1->r=[])/\GoodL ar (l++r)/\TabV ar (l++r) id v t:=by
 have aU:ar.getD v 0=ar[v]:=by rw[aT,bA hv,fg]
 obtain ⟨r,id,e,hr,If,gi,ru,mI,hS⟩:=Xf g h1 fC hv hl (fun k bL=>by
  obtain ⟨i,hi,e⟩:=pM bL;have:=hk i hi;rw[e] at this
  exact ⟨this.lt,by have:=this.top this.lt;omega⟩) fq
 refine ⟨r,id,e,hr,If,gi,ht,ru,fun _=>mI,fun a ha=>?_⟩;have hlt:a v < ks.length:=by have:=ha v hv;omega
 have hn:=Im ha (ar.length - (v+1)) (v+1) (by omega);rw[hS a ha,aT,bA hlt,fg,(hk _ hlt).val a ha,XD hn,A9 hv]
end
end Go.Ab
namespace Go.Ab
def BL (l:List ND):Nat->Nat->List Nat->List Nat
 | 0,_,out=>out
 | n+1,id,out=>if id∈out then out else match l[id]? with
  | none=>out
  | some x=>(x.kids.foldl (fun o k=>BL l n k.toNat o) out)++[id]
def Vi (l:List ND) (id:Nat) (out:List Nat):List Nat:=BL l (id+1) id out
def iq (l:List ND) (ks:List Int) (out:List Nat):List Nat:=ks.foldl (fun o k=>Vi l k.toNat o) out
theorem Mf {α β:Type} {f g:β->α->β}:∀ (l:List α) (b:β),(∀ x∈l,∀ b,f b x=g b x)->l.foldl f b=l.foldl g b
 | [],_,_=>rfl
 | x::l,b,h=>by
  rw[ux,ux,h x fJ,Mf l _ fun y hy=>h y (fI _ hy)]
section
variable {ar:List Int} {l:List ND}
theorem pF (g:GoodL ar l) {i:Nat} (hi:i < l.length):∀ k∈l[i].kids,∃ t:Nat,k=t/\t < i:=fun k hk=>by
 by_cases hv:0<=l[i].var
 ·obtain ⟨t,e,ht,_⟩:=g.kid i hi hv k hk;exact ⟨t,e,ht⟩
 ·rcases g.ok _ (bM hi) with ⟨_,h2,_⟩ | ⟨h1,_⟩
  ·rw[h2] at hk;cases hk
  ·omega
theorem Zr (g:GoodL ar l):∀ (n id m:Nat) (out:List Nat),id < l.length->id < n->id < m->BL l n id out=BL l m id out
 | 0,id,m,_,_,h,_=>by omega
 | n+1,id,0,_,_,_,h=>by omega
 | n+1,id,m+1,out,hi,_,_=>by
  simp only[BL,bA hi];rw[Mf l[id].kids out fun k hk b=>?_];obtain ⟨t,rfl,ht⟩:=pF g hi k hk;exact Zr g n _ m b (by omega) (by simp;omega) (by simp;omega)
theorem tt (g:GoodL ar l) {id:Nat} (hi:id < l.length) (out:List Nat):Vi l id out=if id∈out then out else iq l l[id].kids out++[id]:=by
 unfold Vi iq;rw[BL,bA hi];dsimp only;rw[Mf l[id].kids out fun k hk b=>?_];obtain ⟨t,rfl,ht⟩:=pF g hi k hk;exact Zr g id _ _ b (by omega) (by simp;omega) (by simp[Vi])
theorem qgm (out:List Nat):iq l [] out=out:=rfl
theorem CT (k:Int) (ks:List Int) (out:List Nat):iq l (k::ks) out=iq l ks (Vi l k.toNat out):=rfl
structure Cl (l:List ND) (out:List Nat):Prop where
 nd:out.Nodup
 lt:∀ j∈out,j < l.length
 cl:∀ i (h:i < out.length) (hj:out[i] < l.length),∀ k∈l[out[i]].kids,k.toNat∈out.take i
theorem ri:Cl l []:=⟨by simp,by simp,fun i h=>by simp at h⟩
theorem Cl.kids {out:List Nat} (h:Cl l out) {j:Nat} (hj:j∈out) (hl:j < l.length):∀ k∈l[j].kids,k.toNat∈out:=fun k hk=>by
 obtain ⟨i,hi,e⟩:=pM hj;subst e;exact List.take_subset _ _ (h.cl i hi hl k hk)
theorem Cl.snoc {out:List Nat} (h:Cl l out) {id:Nat} (hi:id < l.length) (hn:id∉out) (hk:∀ k∈l[id].kids,k.toNat∈out):Cl l (out++[id]):=by
 refine ⟨?_,fun j hj=>?_,fun i h2 hj k kK=>?_⟩
 ·rw[List.nodup_append]
  exact ⟨h.nd,by simp,fun a ha b hb e=>by
   obtain rfl:b=id:=by simpa using hb
   exact hn (e▸ha)⟩
 ·rcases im.1 hj with hj | hj
  ·exact h.lt j hj
  ·obtain rfl:j=id:=by simpa using hj
   exact hi
 ·by_cases cq:i < out.length
  ·rw[List.take_append_of_le_length (by omega)];refine h.cl i cq (h.lt _ (bM cq)) k ?_;have e:(out++[id])[i]=out[i]:=List.getElem_append_left cq;rw[List.getElem_of_eq rfl] at kK;have:∀ (y:Nat) (hy:y < l.length),y=out[i]->k∈l[y].kids->k∈(l[out[i]]'(h.lt _ (bM cq))).kids:=fun y hy e h=>by subst e;exact h
   exact this _ hj e kK
  ·have HZ:i=out.length:=by simp at h2;omega
   subst HZ;have e:(out++[id])[out.length]=id:=by simp
   have:∀ (y:Nat) (hy:y < l.length),y=id->k∈l[y].kids->k∈l[id].kids:=fun y hy e h=>by subst e;exact h
   have:=hk k (this _ hj e kK);simpa using this
theorem qs (g:GoodL ar l):∀ id,id < l.length->∀ out,Cl l out->Cl l (Vi l id out)/\id∈Vi l id out/\∃ r,Vi l id out=out++r/\∀ y∈r,y<=id:=by
 intro id
 induction id using Nat.strongRecOn with
 | ind id ih=>
  intro hi out hc
  have key:∀ (ks:List Int),(∀ k∈ks,∃ t:Nat,k=t/\t < id)->∀ out,Cl l out->Cl l (iq l ks out)/\(∀ k∈ks,k.toNat∈iq l ks out)/\∃ r,iq l ks out=out++r/\∀ y∈r,y < id:=by
   intro ks
   induction ks with
   | nil=>intro _ out hc;exact ⟨hc,by simp,[],by simp[iq],by simp⟩
   | cons k ks ihk=>
    intro hk out hc;obtain ⟨t,rfl,ht⟩:=hk k fJ;obtain ⟨a1,a2,r1,a3,a4⟩:=ih t ht (by omega) out hc;obtain ⟨b1,b2,r2,b3,b4⟩:=ihk (fun k bL=>hk k (fI _ bL)) _ a1;rw[CT,cK]
    refine ⟨b1,fun k bL=>?_,r1++r2,by rw[b3,a3,ga],fun y hy=>?_⟩
    ·rcases gB.1 bL with rfl | bL
     ·rw[b3];exact Ad _ (by simpa using a2)
     ·exact b2 k bL
    ·rcases im.1 hy with hy | hy
     ·have:=a4 y hy;omega
     ·exact b4 y hy
  rw[tt g hi]
  by_cases hm:id∈out
  ·rw[an hm];exact ⟨hc,hm,[],by simp,by simp⟩
  ·rw[aj hm];obtain ⟨b1,b2,r,b3,b4⟩:=key l[id].kids (fun k hk=>pF g hi k hk) out hc
   refine ⟨b1.snoc hi (fun h=>?_) b2,by simp,r++[id],by rw[b3,ga],fun y hy=>?_⟩
   ·rw[b3] at h
    rcases im.1 h with h | h
    ·exact hm h
    ·have:=b4 _ h;omega
   ·rcases im.1 hy with hy | hy
    ·have:=b4 y hy;omega
    ·have:y=id:=by simpa using hy
     omega
theorem Ln (g:GoodL ar l) {id:Nat} (hi:id < l.length):∀ (ks:List Int),(∀ k∈ks,∃ t:Nat,k=t/\t < id)->∀ out,Cl l out->Cl l (iq l ks out)/\(∀ k∈ks,k.toNat∈iq l ks out)/\∃ r,iq l ks out=out++r/\∀ y∈r,y < id:=by
 intro ks
 induction ks with
 | nil=>intro _ out hc;exact ⟨hc,by simp,[],by simp[iq],by simp⟩
 | cons k ks ihk=>
  intro hk out hc;obtain ⟨t,rfl,ht⟩:=hk k fJ;obtain ⟨a1,a2,r1,a3,a4⟩:=qs g t (by omega) out hc;obtain ⟨b1,b2,r2,b3,b4⟩:=ihk (fun k bL=>hk k (fI _ bL)) _ a1;rw[CT,cK]
  refine ⟨b1,fun k bL=>?_,r1++r2,by rw[b3,a3,ga],fun y hy=>?_⟩
  ·rcases gB.1 bL with rfl | bL
   ·rw[b3];exact Ad _ (by simpa using a2)
   ·exact b2 k bL
  ·rcases im.1 hy with hy | hy
   ·have:=a4 y hy;omega
   ·exact b4 y hy
theorem Su (g:GoodL ar l):∀ (ks:List Int) (out:List Nat),(∀ k∈ks,k.toNat∈out/\k.toNat < l.length)->iq l ks out=out
 | [],_,_=>rfl
 | k::ks,out,h=>by
  obtain ⟨h1,h2⟩:=h k fJ;rw[CT,tt g h2,an h1];exact Su g ks out fun k hk=>h k (fI _ hk)
theorem Ss (g:GoodL ar l) {id:Nat} (hi:id < l.length) {out:List Nat} (hc:Cl l out):Vi l id out=if id∈iq l l[id].kids out then iq l l[id].kids out else iq l l[id].kids out++[id]:=by
 rw[tt g hi]
 by_cases hm:id∈out
 ·rw[Su g _ _ fun k hk=>⟨hc.kids hm hi k hk,hc.lt _ (hc.kids hm hi k hk)⟩,an hm]
  try rw[an hm]
 ·obtain ⟨b1,b2,r,b3,b4⟩:=Ln g hi l[id].kids (fun k hk=>pF g hi k hk) out hc;rw[aj hm,aj];intro h;rw[b3] at h
  rcases im.1 h with h | h
  ·exact hm h
  ·have:=b4 _ h;omega
def nd (l:List ND) (out:List Nat) (id:Nat):ND:=⟨(l.getD id ⟨0,[],0⟩).var,(l.getD id ⟨0,[],0⟩).kids.map (fun k=>((out.idxOf k.toNat:Nat):Int)),(l.getD id ⟨0,[],0⟩).leaf⟩
def eu (l:List ND) (out:List Nat):List ND:=out.map (nd l out)
theorem jk {id:Nat} (hi:id < l.length):l.getD id ⟨0,[],0⟩=l[id]:=by rw[aT,bA hi,fg]
theorem Oc {out:List Nat} {id:Nat} (hi:id < l.length) (hk:∀ k∈l[id].kids,k.toNat∈out) (r:List Nat):nd l (out++r) id=nd l out id:=by
 unfold nd;rw[jk hi];congr 1;refine List.map_congr_left fun k bL=>?_;rw[List.idxOf_append,an (hk k bL)]
theorem WM {out:List Nat} (hc:Cl l out) {id:Nat} (hi:id < l.length) (hk:∀ k∈l[id].kids,k.toNat∈out):eu l (out++[id])=eu l out++[nd l out id]:=by
 unfold eu;rw[kX,fV,qT,Oc hi hk];congr 1;exact List.map_congr_left fun j hj=>Oc (hc.lt j hj) (hc.kids hj (hc.lt j hj)) [id]
theorem ql5 {out:List Nat} {a b:Nat} (ha:a∈out) (hb:b∈out) (e:out.idxOf a=out.idxOf b):a=b:=by
 have h1:=List.getElem_idxOf (List.idxOf_lt_length_of_mem ha);have h2:=List.getElem_idxOf (List.idxOf_lt_length_of_mem hb);rw[<- h1,<- h2];simp only[e]
theorem Od (g:GoodL ar l) {out:List Nat} {i j:Nat} (hi:i < l.length) (hj:j < l.length) (jt:∀ k∈l[i].kids,k.toNat∈out) (DF:∀ k∈l[j].kids,k.toNat∈out) (e:nd l out i=nd l out j):i=j:=by
 unfold nd at e;rw[jk hi,jk hj] at e
 injection e with e1 e2 e3
 have hk:l[i].kids=l[j].kids:=by
  have hl:l[i].kids.length=l[j].kids.length:=by have:=dc List.length e2;simpa using this
  refine List.ext_getElem hl fun q h1 h2=>?_;have h3:=List.getElem_of_eq e2 (i:=q) (by simpa using h1);rw[ti,ti] at h3;have h4:=ql5 (jt _ (bM h1)) (DF _ (bM h2)) (by omega);obtain ⟨a,ea,_⟩:=pF g hi _ (bM h1);obtain ⟨b,eb,_⟩:=pF g hj _ (bM h2);omega
 have en:l[i]=l[j]:=by
  generalize l[i]=x at *;generalize l[j]=y at *;obtain ⟨xv,xk,xl⟩:=x;obtain ⟨yv,yk,yl⟩:=y;simp only at e1 e3 hk;rw[e1,e3,hk]
 exact Bn g.nd hi hj en
theorem qmY (g:GoodL ar l) {out:List Nat} (hc:Cl l out) {id:Nat} (hi:id < l.length) (hk:∀ k∈l[id].kids,k.toNat∈out):nd l out id∈eu l out↔id∈out:=by
 unfold eu;rw[iX]
 constructor
 ·rintro ⟨j,hj,e⟩;have:=Od g (hc.lt j hj) hi (hc.kids hj (hc.lt j hj)) hk e;exact this▸hj
 ·intro h;exact ⟨id,h,rfl⟩
theorem qmX (g:GoodL ar l) {out:List Nat} (hc:Cl l out) {id:Nat} (hi:id < l.length) (hk:∀ k∈l[id].kids,k.toNat∈out):(eu l out).idxOf (nd l out id)=out.idxOf id:=by
 have key:∀ (p:List Nat),(∀ j∈p,j∈out)->(p.map (nd l out)).idxOf (nd l out id)=p.idxOf id:=by
  intro p
  induction p with
  | nil=>intro _;rfl
  | cons j p ih=>
   intro h;have hj:=h j fJ;rw[fV,List.idxOf_cons,List.idxOf_cons,ih fun q hq=>h q (fI _ hq)]
   have:(nd l out j == nd l out id)=(j == id):=by
    by_cases e:j=id
    ·subst e;simp
    ·have:nd l out j≠nd l out id:=fun h=>e (Od g (hc.lt j hj) hi (hc.kids hj (hc.lt j hj)) hk h);rw[beq_eq_false_iff_ne.2 e,beq_eq_false_iff_ne.2 this]
   rw[this]
 exact key out fun _ h=>h
theorem XX (g:GoodL ar l) {out:List Nat} (hc:Cl l out) {id:Nat} (hi:id < l.length) (hk:∀ k∈l[id].kids,k.toNat∈out) :
  jb (eu l out) (nd l out id)=eu l (if id∈out then out else out++[id])/\(eu l out).idxOf (nd l out id)=(if id∈out then out else out++[id]).idxOf id:=by
 have hm:=qmY g hc hi hk;rw[qmX g hc hi hk];unfold jb
 by_cases h:id∈out
 ·rw[an (hm.2 h),an h];exact ⟨rfl,rfl⟩
 ·rw[aj (fun hh=>h (hm.1 hh)),aj h,WM hc hi hk,List.idxOf_append,aj h];refine ⟨rfl,?_⟩;rw[List.idxOf_eq_length h];simp
theorem qo4 {id v:Nat} {t:List Int} (hv:v<=ar.length) (h:TabV ar l id v t) {a:Nat->Nat} (ha:iW ar a):S l a id∈t:=by
 rw[h.val a ha];have:=Im ha (ar.length - v) v (by omega);rw[aT,bA (by rw[h.len];exact this),fg];exact bM _
theorem qjT (g:GoodL ar l) (h1:∀ x∈ar,1<=x) {id v:Nat} {t:List Int} (hv:v<=ar.length) (h:TabV ar l id v t) {c:Int} (hc:∀ y∈t,y=c):l.getD id ⟨0,[],0⟩=iC c:=by
 have hi:=h.lt;rw[jk hi];have hS:∀ a,iW ar a->S l a id=c:=fun a ha=>hc _ (qo4 hv h ha)
 have hn:l[id].var < 0:=by
  refine Decidable.byContradiction fun hn=>?_;have sK:0<=l[id].var:=by omega
  have sN:((l[id].var.toNat:Nat):Int)=l[id].var:=by omega
  have a0:=C1 h1;have hlt:=(g.var id hi sK).1
  obtain ⟨t0,e0,Nu,_⟩:=oD g hi sK (k:=0) (by
   have:=h1 (ar[l[id].var.toNat]) (bM (by omega))
   rw[aT,bA (by omega),fg];omega)
  have all:∀ k:Nat,(k:Int) < ar.getD l[id].var.toNat 0->∀ a,iW ar a->S l a (l[id].kids.getD k 0).toNat=c:=fun k hk a ha=>by
   rw[<- CM g ha hi (v:=l[id].var.toNat) (k:=k) sN.symm hk];exact hS _ (ha.upd hk)
  refine Oi g h1 hi (j:=t0) sK fun k hk=>?_;obtain ⟨tk,ek,jZ,_⟩:=oD g hi sK hk;rw[ek];congr 1;refine canon g h1 _ tk t0 (by omega) (by omega) (Nat.lt_succ_self _) fun a ha=>?_;have x1:=all k hk a ha
  have x2:=all 0 (by
   have:=h1 (ar[l[id].var.toNat]) (bM (by omega))
   rw[aT,bA (by omega),fg];omega) a ha
  rw[ek,cK] at x1;rw[e0,cK] at x2;rw[x1,x2]
 have hl:l[id].leaf=c:=by rw[<- hS _ (C1 h1),xR hi hn]
 rcases g.ok _ (bM hi) with ⟨b1,b2,_⟩ | ⟨b1,_⟩
 ·generalize l[id]=x at *;obtain ⟨xv,xk,xl⟩:=x;simp only at b1 b2 hl;rw[b1,b2,hl];rfl
 ·omega
theorem Jn {id v:Nat} {t:List Int} (hv:v < ar.length) (h:TabV ar l id v t) {a:Nat->Nat} (ha:iW ar a) {k:Nat} (hk:(k:Int) < ar.getD v 0):S l (upd a v k) id=(part t (b9 (ar.drop (v+1))) k).getD (p7 (ar.drop (v+1)) (v+1) a) 0:=by
 have hn:=Im ha (ar.length - (v+1)) (v+1) (by omega);rw[h.val _ (ha.upd hk),XD hn,A9 hv,NC (ar.length - (v+1)) (v+1) (by omega) (by omega)];have:upd a v k v=k:=by unfold upd;rw[an rfl]
 rw[this]
theorem IQ (h1:∀ x∈ar,1<=x) {v:Nat} {t:List Int} (hv:v < ar.length) (ht:t.length=b9 (ar.drop v)) {k:Nat} (hk:(k:Int) < ar.getD v 0):(part t (b9 (ar.drop (v+1))) k).length=b9 (ar.drop (v+1)):=by
 rw[w5 hv] at ht;exact part_len ht (by omega)
theorem Pb (g:GoodL ar l) (h1:∀ x∈ar,1<=x) {id v:Nat} {t:List Int} (hv:v < ar.length) (h:TabV ar l id v t) (hi:id < l.length) (tU:l[id].var=v) {k:Nat} (hk:(k:Int) < ar.getD v 0):TabV ar l (l[id].kids.getD k 0).toNat (v+1) (part t (b9 (ar.drop (v+1))) k):=by
 have sN:l[id].var.toNat=v:=by omega
 obtain ⟨q,e,hq,h2⟩:=oD g hi (by omega) (k:=k) (by rw[sN];exact hk)
 refine ⟨IQ h1 hv h.len hk,by rw[e];simp;omega,fun hh=>?_,fun a ha=>?_⟩
 ·have:=h2 (by omega);have e2:(l[id].kids.getD k 0).toNat=q:=by rw[e];simp
  have:∀ (y:Nat) (hy:y < l.length),y=q->(((v+1:Nat)):Int)<=ft ar.length l[y]:=fun y hy ey=>by subst ey;omega
  exact this _ hh e2
 ·rw[<- CM g ha hi tU hk];exact Jn hv h ha hk
theorem qkk (g:GoodL ar l) (h1:∀ x∈ar,1<=x) {id v:Nat} {t:List Int} (hv:v < ar.length) (h:TabV ar l id v t) (hf:∀ k:Nat,(k:Int) < ar.getD v 0->part t (b9 (ar.drop (v+1))) k=part t (b9 (ar.drop (v+1))) 0):TabV ar l id (v+1) (part t (b9 (ar.drop (v+1))) 0):=by
 have hi:=h.lt
 have oh:1<=ar.getD v 0:=by
  rw[aT,bA hv,fg];exact h1 _ (bM hv)
 have hne:l[id].var≠v:=fun tU=>by
  have sN:l[id].var.toNat=v:=by omega
  refine Oi g h1 hi (j:=(l[id].kids.getD 0 0).toNat) (by omega) fun k hk=>?_;rw[sN] at hk;obtain ⟨q,e,hq,_⟩:=oD g hi (by omega) (k:=k) (by rw[sN];exact hk);have t1:=Pb g h1 hv h hi tU hk;have t0:=Pb g h1 hv h hi tU (k:=0) (by omega);rw[hf k hk] at t1;have:=qo7 g h1 t1 t0;rw[<- this,e];simp
 have mI:=h.top hi
 have hlt:(v:Int) < ft ar.length l[id]:=by
  unfold ft at mI ⊢
  split
  ·rename_i hh;rw[an hh] at mI;omega
  ·omega
 refine ⟨IQ h1 hv h.len (by omega),hi,fun _=>by omega,fun a ha=>?_⟩;have hk:=ha v hv;rw[<- hf (a v) hk,<- Jn hv h ha hk,xQ g ha hk id hi hlt]
theorem qm2 (g:GoodL ar l) (h1:∀ x∈ar,1<=x) {id v:Nat} {t:List Int} (hv:v < ar.length) (h:TabV ar l id v t) (hi:id < l.length) (hf:¬ ∀ k:Nat,(k:Int) < ar.getD v 0->part t (b9 (ar.drop (v+1))) k=part t (b9 (ar.drop (v+1))) 0):l[id].var=v:=by
 refine Decidable.byContradiction fun hne=>hf fun k hk=>?_;have mI:=h.top hi
 have oh:1<=ar.getD v 0:=by
  rw[aT,bA hv,fg];exact h1 _ (bM hv)
 have hlt:(v:Int) < ft ar.length l[id]:=by
  unfold ft at mI ⊢
  split
  ·rename_i hh;rw[an hh] at mI;omega
  ·omega
 have e1:=IQ h1 hv h.len hk;have e0:=IQ h1 hv h.len (k:=0) (by omega);refine Wl (e1.trans e0.symm) fun q hq=>?_;obtain ⟨a,ha,e⟩:=VL h1 (ar.length - (v+1)) (v+1) q (by omega) (by rw[<- e1];exact hq);rw[<- e,<- Jn hv h ha hk,<- Jn hv h ha (k:=0) (by omega),xQ g ha hk id hi hlt,xQ g ha (by omega) id hi hlt]
end
end Go.Ab
namespace Go.Ab
section
variable {ar:List Int} {l:List ND}
inductive Rc (l:List ND) (id:Nat):Nat->Prop
 | refl:Rc l id id
 | kid (j:Nat) (k:Int) (h:Rc l id j) (hj:j < l.length) (hk:k∈l[j].kids):Rc l id k.toNat
theorem Rc.trans (g:GoodL ar l) {a b c:Nat} (h:Rc l a b) (k:Rc l b c):Rc l a c:=by
 induction k with
 | refl=>exact h
 | kid j q _ hj hk ih=>exact .kid j q ih hj hk
theorem Zn {a:Nat->Nat} {v k w:Nat} (h:w≠v):upd a v k w=a w:=by unfold upd;rw[aj h]
theorem Pl {a:Nat->Nat} {v k:Nat}:upd a v k v=k:=by unfold upd;rw[an rfl]
end
end Go.Ab
namespace Go.Ab
def jJ (n:Nat) (F:Nat->Nat):Nat:=((List.range n).map F).sum
theorem Y4 (F:Nat->Nat):jJ 0 F=0:=rfl
theorem rF (n:Nat) (F:Nat->Nat):jJ (n+1) F=jJ n F+F n:=by
 unfold jJ;rw[List.range_succ,kX,List.sum_append];simp
theorem xh {n:Nat} {F G:Nat->Nat} (h:∀ k,k < n->F k=G k):jJ n F=jJ n G:=by
 induction n with
 | zero=>rfl
 | succ n ih=>rw[rF,rF,ih fun k hk=>h k (by omega),h n (by omega)]
theorem O8 (c n:Nat) (F:Nat->Nat):jJ n (fun k=>c * F k)=c * jJ n F:=by
 induction n with
 | zero=>rfl
 | succ n ih=>rw[rF,rF,ih,gm]
theorem O9 (c n:Nat) (F:Nat->Nat):jJ n (fun k=>F k * c)=jJ n F * c:=by
 rw[cP,<- O8];exact xh fun k _=>cP _ _
theorem qoU (n m:Nat) (F:Nat->Nat):jJ (n+m) F=jJ n F+jJ m fun k=>F (n+k):=by
 induction m with
 | zero=>rfl
 | succ m ih=>rw[<- mo,rF,rF,ih,mo]
theorem qoV {n:Nat} (F:Nat->Nat) {k:Nat} (hk:k < n):F k<=jJ n F:=by
 induction n with
 | zero=>omega
 | succ n ih=>
  rw[rF]
  by_cases h:k=n
  ·subst h;omega
  ·have:=ih (by omega);omega
section
variable {ar:List Int} (s:Nat->Nat->Nat)
abbrev jC (ar:List Int) (v:Nat):Nat:=(ar.getD v 0).toNat
def Ct (ar:List Int) (s:Nat->Nat->Nat):Nat->Nat->((Nat->Nat)->Nat)->(Nat->Nat)->Nat
 | 0,_,φ,a=>φ a
 | d+1,v,φ,a=>jJ (jC ar v) fun k=>s v k * Ct ar s d (v+1) φ (upd a v k)
def SS (ar:List Int) (s:Nat->Nat->Nat) (v:Nat):Nat:=jJ (jC ar v) (s v)
def PM (ar:List Int) (s:Nat->Nat->Nat):Nat->Nat->Nat
 | 0,_=>1
 | d+1,v=>SS ar s v * PM ar s d (v+1)
variable {s}
theorem ra {v k:Nat} (hk:k < jC ar v):(k:Int) < ar.getD v 0:=by unfold jC at hk;omega
theorem PR {φ ψ:(Nat->Nat)->Nat}:∀ (d v:Nat) (a:Nat->Nat),iW ar a->(∀ b,iW ar b->(∀ w,w < v->b w=a w)->φ b=ψ b)->Ct ar s d v φ a=Ct ar s d v ψ a
 | 0,v,a,ha,h=>h a ha fun _ _=>rfl
 | d+1,v,a,ha,h=>by
  refine xh fun k hk=>?_;rw[PR d (v+1) (upd a v k) (ha.upd (ra hk)) fun b hb hw=>h b hb fun w Nw=>(hw w (by omega)).trans (Zn (by omega))]
theorem JH (x:Nat):∀ (d v:Nat) (a:Nat->Nat),Ct ar s d v (fun _=>x) a=PM ar s d v * x
 | 0,v,a=>by simp[Ct,PM]
 | d+1,v,a=>by
  rw[Ct,PM,xh (G:=fun k=>s v k * (PM ar s d (v+1) * x)) fun k _=>by rw[JH x d],O9,SS,fB]
theorem qpy {a:Nat->Nat} {v w j k:Nat} (h:v≠w):upd (upd a v j) w k=upd (upd a w k) v j:=by
 funext x;unfold upd
 by_cases h1:x=v<;>by_cases h2:x=w<;>simp[h1,h2]
 ·subst h1;exact absurd h2 h
 ·intro e;exact absurd e h
 ·intro e;exact absurd e.symm h
theorem JI {φ:(Nat->Nat)->Nat} {v j:Nat} (hj:(j:Int) < ar.getD v 0) (h:∀ b,iW ar b->φ (upd b v j)=φ b):∀ (d v':Nat) (a:Nat->Nat),v < v'->iW ar a->Ct ar s d v' φ (upd a v j)=Ct ar s d v' φ a
 | 0,v',a,hv,ha=>h a ha
 | d+1,v',a,hv,ha=>by
  refine xh fun k hk=>?_;rw[qpy (by omega),JI hj h d (v'+1) (upd a v' k) (by omega) (ha.upd (ra hk))]
theorem Z4 {φ:(Nat->Nat)->Nat} {d v:Nat} {a:Nat->Nat} (ha:iW ar a) (h:∀ (b:Nat->Nat) (k:Nat),iW ar b->(k:Int) < ar.getD v 0->φ (upd b v k)=φ b):Ct ar s (d+1) v φ a=SS ar s v * Ct ar s d (v+1) φ a:=by
 rw[Ct,xh (G:=fun k=>s v k * Ct ar s d (v+1) φ a) fun k hk=>by rw[JI (ra hk) (fun b hb=>h b k hb (ra hk)) d (v+1) a (by omega) ha],O9];rfl
theorem PS {φ:(Nat->Nat)->Nat} {a:Nat->Nat} (ha:iW ar a):∀ (u d v:Nat),(∀ (b:Nat->Nat) (w k:Nat),v<=w->w < v+u->iW ar b->(k:Int) < ar.getD w 0->φ (upd b w k)=φ b)->Ct ar s (u+d) v φ a=PM ar s u v * Ct ar s d (v+u) φ a
 | 0,d,v,h=>by simp[PM]
 | u+1,d,v,h=>by
  rw[show u+1+d=(u+d)+1 by omega,Z4 ha fun b k hb hk=>h b v k (by omega) (by omega) hb hk,PS ha u d (v+1) fun b w k h1 h2=>h b w k (by omega) (by omega),PM,fB,show v+1+u=v+(u+1) by omega]
theorem CG:∀ (u d v:Nat),PM ar s (u+d) v=PM ar s u v * PM ar s d (v+u)
 | 0,d,v=>by simp[PM]
 | u+1,d,v=>by
  rw[show u+1+d=(u+d)+1 by omega,PM,PM,CG u d (v+1),fB,show v+1+u=v+(u+1) by omega]
variable {l:List ND}
def Hc (ar:List Int) (s:Nat->Nat->Nat) (l:List ND) (c:Int) (k:Nat):Nat:=Ct ar s ar.length 0 (fun a=>if S l a k=c then 1 else 0) fun _=>0
def zG (ar:List Int) (s:Nat->Nat->Nat) (l:List ND) (h:Nat->Nat):Prop:=∀ (k u:Nat) (hk:k < l.length),l[k].var=u->∃ q:Nat->Nat,(∀ j,j < jC ar u->h (l[k].kids.getD j 0).toNat=SS ar s u * q j)/\h k=jJ (jC ar u) fun j=>s u j * q j
theorem Mz (g:GoodL ar l) (h1:∀ x∈ar,1<=x) (c:Int):zG ar s l (Hc ar s l c):=by
 intro k u hk hu;have ha:=C1 h1;obtain ⟨kr,tT⟩:=g.var k hk (by omega);have j0:u < ar.length:=by omega
 have oB:l[k].var.toNat=u:=by omega
 have lY:ft ar.length l[k]=u:=by unfold ft;rw[an (by omega)];exact hu
 have frm:∀ (i:Nat) (hi:i < l.length) (w:Nat),(w:Int)<=ft ar.length l[i]->w<=ar.length->Hc ar s l c i=PM ar s w 0 * Ct ar s (ar.length - w) w (fun a=>if S l a i=c then 1 else 0) fun _=>0:=fun i hi w hw A8=>by
  have:=PS (s:=s) (φ:=fun a=>if S l a i=c then 1 else 0) ha w (ar.length - w) 0 fun b x j _ hx hb hj=>by
   skip
   rw[xQ g hb hj i hi (by omega)]
  rw[bf,show w+(ar.length - w)=ar.length by omega] at this;exact this
 refine ⟨fun j=>PM ar s u 0 * Ct ar s (ar.length - (u+1)) (u+1) (fun a=>if S l a (l[k].kids.getD j 0).toNat=c then 1 else 0) fun _=>0,fun j hj=>?_,?_⟩
 ·obtain ⟨t,e,ht,h2⟩:=oD g hk (by omega) (k:=j) (by rw[oB];exact ra hj);have h2:=h2 (by omega);rw[e,cK,frm t (by omega) (u+1) (by omega) (by omega),CG u 1 0];simp only[PM,mq,bf,e,cK];rw[<- fB,cP (SS ar s u)]
 ·rw[frm k hk u (by omega) (by omega),show ar.length - u=(ar.length - (u+1))+1 by omega,Ct,<- O8];refine xh fun j hj=>?_;obtain ⟨t,e,ht,h2⟩:=oD g hk (by omega) (k:=j) (by rw[oB];exact ra hj);have h2:=h2 (by omega)
  have e1:Ct ar s (ar.length - (u+1)) (u+1) (fun a=>if S l a k=c then 1 else 0) (upd (fun _=>0) u j)=Ct ar s (ar.length - (u+1)) (u+1) (fun a=>if S l a t=c then 1 else 0) (upd (fun _=>0) u j):=
   PR _ _ _ (ha.upd (ra hj)) fun b hb hw=>by
    have:b u=j:=(hw u (by omega)).trans Pl;rw[CL g hb hk (by omega),oB,this,e,cK]
  dsimp only
  rw[e1,e,cK,JI (ra hj) (fun b hb=>by
   skip
   rw[xQ g hb (ra hj) t (by omega) (by omega)]) _ _ _ (by omega) ha]
  rw[<- fB,cP (PM ar s u 0),fB]
theorem JJ (c:Int) {k:Nat} (hk:k < l.length) (hv:l[k].var < 0):Hc ar s l c k=if l[k].leaf=c then PM ar s ar.length 0 else 0:=by
 unfold Hc
 have:(fun a:Nat->Nat=>if S l a k=c then (1:Nat) else 0)=fun _=>if l[k].leaf=c then 1 else 0:=by funext a;rw[xR hk hv]
 rw[this,JH];split<;>simp
theorem qkT (g:GoodL ar l):zG ar s l fun _=>PM ar s ar.length 0:=by
 intro k u hk hu;obtain ⟨kr,_⟩:=g.var k hk (by omega)
 have e:PM ar s ar.length 0=PM ar s u 0 * (SS ar s u * PM ar s (ar.length - (u+1)) (u+1)):=by
  have:=CG (ar:=ar) (s:=s) u ((ar.length - (u+1))+1) 0;rw[show u+((ar.length - (u+1))+1)=ar.length by omega,bf] at this;rw[this];rfl
 refine ⟨fun _=>PM ar s u 0 * PM ar s (ar.length - (u+1)) (u+1),fun j _=>?_,?_⟩
 ·dsimp only;rw[e,<- fB,<- fB,cP (PM ar s u 0)]
 ·dsimp only;rw[O9,e,<- fB,<- fB,cP (PM ar s u 0)];rfl
def jE (ar:List Int) (s:Nat->Nat->Nat) (n:ND):List (Nat×Nat):=(List.range (jC ar n.var.toNat)).map fun j=>((n.kids.getD j 0).toNat,s n.var.toNat j)
def kD (t:Nat):List (Nat×Nat)->(Nat->Nat)->Nat->Nat
 | [],T=>T
 | p::L,T=>kD t L (upd T p.1 (T p.1+t * p.2))
theorem Jd (t:Nat) (p:Nat×Nat):∀ (L:List (Nat×Nat)) (T:Nat->Nat),kD t (L++[p]) T=upd (kD t L T) p.1 (kD t L T p.1+t * p.2)
 | [],T=>rfl
 | q::L,T=>by rw[bQ,kD,Jd t p L];rfl
def jx (h T:Nat->Nat) (R:List Nat):Nat:=(R.map fun j=>T j * h j).sum
theorem IV {h T:Nat->Nat} {j x:Nat}:∀ {R:List Nat},R.Nodup->jx h (upd T j (T j+x)) R=jx h T R+if j∈R then x * h j else 0
 | [],_=>by simp[jx]
 | i::R,hn=>by
  obtain ⟨h1,h2⟩:=uC.1 hn;have ih:=IV (h:=h) (T:=T) (j:=j) (x:=x) h2;unfold jx at ih ⊢;rw[fV,mR,fV,mR,ih]
  by_cases hi:i=j
  ·subst hi;rw[Pl,aj h1,an fJ,gX];omega
  ·have hm:(j∈i::R)↔j∈R:=by simp[gB,show ¬ j=i from fun e=>hi e.symm]
   rw[Zn hi,mo];congr 2
   by_cases hj:j∈R
   ·rw[an hj,an (hm.2 hj)]
   ·rw[aj hj,aj (fun h=>hj (hm.1 h))]
theorem IU {h:Nat->Nat} {t:Nat} {R:List Nat} (hn:R.Nodup):∀ (L:List (Nat×Nat)) (T:Nat->Nat),(∀ p∈L,p.1∈R)->jx h (kD t L T) R=jx h T R+t * (L.map fun p=>p.2 * h p.1).sum
 | [],T,_=>by simp[kD]
 | p::L,T,hL=>by
  rw[kD,IU hn L _ fun q hq=>hL q (fI _ hq),IV hn,an (hL p fJ),fV,mR,gm,fB,mo]
theorem XT {h T:Nat->Nat}:∀ {R:List Nat} {j:Nat},j∈R->T j * h j<=jx h T R
 | i::R,j,hj=>by
  unfold jx;rw[fV,mR]
  rcases gB.1 hj with rfl | hj
  ·omega
  ·have:T j * h j<=(R.map fun j=>T j * h j).sum:=XT (R:=R) hj;omega
def run (ar:List Int) (s:Nat->Nat->Nat) (l:List ND):List Nat->(Nat->Nat)->List (Int×Nat)
 | [],_=>[]
 | k::R,T=>match l[k]? with
  | none=>[]
  | some n=>if n.var < 0 then (n.leaf,T k)::run ar s l R T else run ar s l R (kD (T k / SS ar s n.var.toNat) (jE ar s n) T)
structure Flow (ar:List Int) (s:Nat->Nat->Nat) (l:List ND) (R:List Nat) (T:Nat->Nat) (done:Nat):Prop where
 nd:R.Nodup
 lt:∀ j∈R,j < l.length
 srt:R.Pairwise fun x y=>ft ar.length (l.getD x ⟨0,[],0⟩)<=ft ar.length (l.getD y ⟨0,[],0⟩)
 kids:∀ (j:Nat) (hj:j < l.length),j∈R->0<=l[j].var->∀ k∈l[j].kids,k.toNat∈R
 dvd:∀ (j:Nat) (hj:j < l.length) (v:Nat),j∈R->ft ar.length l[j]=v->PM ar s (ar.length - v) v∣T j
 tot:jx (fun _=>1) T R+done=PM ar s ar.length 0
theorem V4 (g:GoodL ar l) {k:Nat} (hk:k < l.length) (hv:0<=l[k].var):∀ p∈jE ar s l[k],(p.1:Int)∈l[k].kids/\∃ hp:p.1 < l.length,l[k].var < ft ar.length l[p.1]:=fun p hp=>by
 obtain ⟨j,hj,rfl⟩:=iX.1 hp;have hj:=ra (uz.1 hj);obtain ⟨t,e,ht,h2⟩:=oD g hk hv hj;have hl:=(g.var k hk hv).2;have lD:j < l[k].kids.length:=by omega
 dsimp only;rw[e,cK];refine ⟨?_,by omega,h2 (by omega)⟩;rw[<- e,aT,bA lD];exact bM lD
theorem qmi (k:ND) (h:Nat->Nat):((jE ar s k).map fun p=>p.2 * h p.1).sum=jJ (jC ar k.var.toNat) fun j=>s k.var.toNat j * h (k.kids.getD j 0).toNat:=by
 unfold jE jJ;rw[rW];rfl
theorem Flow.inner (g:GoodL ar l) (h0:∀ v,v < ar.length->0 < SS ar s v) {k:Nat} {R:List Nat} {T:Nat->Nat} {done:Nat} (F:Flow ar s l (k::R) T done) {u:Nat} (hk:k < l.length) (hu:l[k].var=u) :
  u < ar.length/\T k / SS ar s u * SS ar s u=T k/\(∀ p∈jE ar s l[k],p.1∈R)/\k∉R /\
  (∀ (L:List (Nat×Nat)) (p:Nat×Nat) (L':List (Nat×Nat)),jE ar s l[k]=L++p::L'->kD (T k / SS ar s u) L T p.1+T k / SS ar s u * p.2<=PM ar s ar.length 0) /\
  Flow ar s l R (kD (T k / SS ar s u) (jE ar s l[k]) T) done /\
  ∀ h,zG ar s l h->jx h T (k::R)=jx h (kD (T k / SS ar s u) (jE ar s l[k]) T) R:=by
 obtain ⟨lG,mX⟩:=uC.1 F.nd;obtain ⟨kr,tT⟩:=g.var k hk (by omega);have j0:u < ar.length:=by omega
 have oB:l[k].var.toNat=u:=by omega
 have lY:ft ar.length l[k]=u:=by unfold ft;rw[an (by omega)];exact hu
 have hS:=h0 u j0
 have Uz:PM ar s (ar.length - u) u=SS ar s u * PM ar s (ar.length - (u+1)) (u+1):=by
  rw[show ar.length - u=(ar.length - (u+1))+1 by omega];rfl
 obtain ⟨c,hc⟩:=F.dvd k hk u fJ lY
 have A2:T k / SS ar s u=PM ar s (ar.length - (u+1)) (u+1) * c:=by
  rw[hc,Uz,fB,Nat.mul_div_cancel_left _ hS]
 have Ij:T k / SS ar s u * SS ar s u=T k:=by rw[A2,hc,Uz,cP,<- fB]
 have gh:∀ p∈jE ar s l[k],p.1∈R:=fun p hp=>by
  obtain ⟨a1,hpl,a2⟩:=V4 g hk (by omega) p hp;have:=F.kids k hk fJ (by omega) _ a1;rw[cK] at this
  rcases gB.1 this with e | h
  ·exfalso
   have:∀ (x:Nat) (hx:x < l.length),x=k->l[k].var < ft ar.length l[x]->False:=fun x hx e h=>by
    subst e;rw[lY] at h;omega
   exact this _ hpl e a2
  ·exact h
 have hwt:∀ h,zG ar s l h->T k / SS ar s u * ((jE ar s l[k]).map fun p=>p.2 * h p.1).sum=T k * h k:=fun h hh=>by
  obtain ⟨q,q1,q2⟩:=hh k u hk hu;rw[qmi,oB,xh (G:=fun j=>SS ar s u * (s u j * q j)) fun j hj=>by rw[q1 j hj,<- fB,cP (s u j),fB],O8,<- q2,<- fB,Ij]
 have yL:∀ h,zG ar s l h->jx h T (k::R)=jx h (kD (T k / SS ar s u) (jE ar s l[k]) T) R:=fun h hh=>by
  rw[IU mX _ _ gh,hwt h hh];unfold jx;rw[fV,mR,rY]
 have tE:∀ v,v<=ar.length->0 < PM ar s (ar.length - v) v:=by
  have:∀ d v,v+d=ar.length->0 < PM ar s d v:=by
   intro d
   induction d with
   | zero=>intro v _;exact Nat.one_pos
   | succ d ih=>intro v hv;exact Nat.mul_pos (h0 v (by omega)) (ih (v+1) (by omega))
  intro v hv;exact this _ v (by omega)
 have hM:=tE 0 (mw _);rw[Nat.sub_zero] at hM
 have AY:∀ (T':Nat->Nat) (R':List Nat),jx (fun _=>PM ar s ar.length 0) T' R'=jx (fun _=>1) T' R' * PM ar s ar.length 0:=fun T' R'=>by
  unfold jx
  induction R' with
  | nil=>simp
  | cons j R' ih=>rw[fV,mR,ih,fV,mR,gX,mq]
 have A4:jx (fun _=>1) T (k::R)=jx (fun _=>1) (kD (T k / SS ar s u) (jE ar s l[k]) T) R:=by
  have:=yL _ (qkT g);rw[AY,AY] at this;exact Nat.eq_of_mul_eq_mul_right hM this
 refine ⟨j0,Ij,gh,lG,fun L p L' hL=>?_,⟨mX,fun j hj=>F.lt j (fI _ hj),(Cz.1 F.srt).2,fun j hj ry hv q hq=>?_,fun j hj v ry hv=>?_,?_⟩,yL⟩
 ·have hp:p.1∈R:=gh p (by rw[hL];simp)
  have h2:jx (fun _=>1) (kD (T k / SS ar s u) (L++[p]) T) R<=jx (fun _=>1) (kD (T k / SS ar s u) (jE ar s l[k]) T) R:=by
   rw[IU mX _ _ fun q hq=>gh q (by
     rw[hL];rw[im] at hq ⊢;rcases hq with hq | hq
     ·exact .inl hq
     ·exact .inr (by simp at hq;simp[hq])),IU mX _ _ gh,hL]
   refine Nat.add_le_add_left (kE _ ?_) _;simp only[kX,fV,List.sum_append,mR,qT,List.sum_nil];omega
  have h3:=XT (h:=fun _=>1) (T:=kD (T k / SS ar s u) (L++[p]) T) hp;rw[Jd,Pl,mq] at h3;have h4:=F.tot;rw[Jd] at h2;omega
 ·have:=F.kids j hj (fI _ ry) hv q hq
  rcases gB.1 this with e | h
  ·exfalso;obtain ⟨t,et,ht,h2⟩:=g.kid j hj hv q hq;have hs:=(Cz.1 F.srt).1 j ry;rw[jk hk,jk hj] at hs;have oR:ft ar.length l[j]=l[j].var:=by unfold ft;rw[an (by omega)]
   have:∀ (x:Nat) (hx:x < l.length),x=k->l[j].var < ft ar.length l[x]->False:=fun x hx e h=>by
    subst e;omega
   have jZ:t=k:=by rw[et,cK] at e;exact e
   exact this t (by omega) jZ (h2 (by omega))
  ·exact h
 ·
  have hold:=F.dvd j hj v (fI _ ry) hv
  have key:∀ (L:List (Nat×Nat)) (T':Nat->Nat),(∀ p∈L,p.1=j->PM ar s (ar.length - v) v∣T k / SS ar s u)->PM ar s (ar.length - v) v∣T' j->PM ar s (ar.length - v) v∣kD (T k / SS ar s u) L T' j:=by
   intro L
   induction L with
   | nil=>intro T' _ h;exact h
   | cons p L ih=>
    intro T' hL h;rw[kD];refine ih _ (fun q hq=>hL q (fI _ hq)) ?_;unfold upd
    split
    ·rename_i e;rw[<- e];exact Nat.dvd_add h (Nat.dvd_mul_right_of_dvd (hL p fJ e.symm) _)
    ·exact h
  refine key _ T (fun p hp e=>?_) hold;obtain ⟨a1,hpl,a2⟩:=V4 g hk (by omega) p hp
  have hvb:u < v:=by
   have:∀ (x:Nat) (hx:x < l.length),x=j->l[k].var < ft ar.length l[x]->(u:Int) < v:=fun x hx e h=>by
    subst e;omega
   have:=this _ hpl e a2;omega
  have fT:v<=ar.length:=by
   unfold ft at hv
   split at hv
   ·have:=(g.var j hj (by omega)).1;omega
   ·omega
  rw[A2];refine Nat.dvd_mul_right_of_dvd ?_ _;have:=CG (ar:=ar) (s:=s) (v - (u+1)) (ar.length - v) (u+1);rw[show v - (u+1)+(ar.length - v)=ar.length - (u+1) by omega,show u+1+(v - (u+1))=v by omega] at this;rw[this];exact Nat.dvd_mul_left _ _
 ·rw[<- A4];exact F.tot
theorem Flow.leaf (g:GoodL ar l) {k:Nat} {R:List Nat} {T:Nat->Nat} {done:Nat} (F:Flow ar s l (k::R) T done) (hk:k < l.length) (hv:l[k].var < 0):Flow ar s l R T (done+T k)/\T k<=PM ar s ar.length 0/\k∉R:=by
 obtain ⟨lG,mX⟩:=uC.1 F.nd;have ht:=F.tot;unfold jx at ht;rw[fV,mR,mq] at ht
 refine ⟨⟨mX,fun j hj=>F.lt j (fI _ hj),(Cz.1 F.srt).2,fun j hj ry sL q hq=>?_,fun j hj v ry=>F.dvd j hj v (fI _ ry),?_⟩,by omega,lG⟩
 ·have:=F.kids j hj (fI _ ry) sL q hq
  rcases gB.1 this with e | h
  ·exfalso;obtain ⟨t,et,qy,h2⟩:=g.kid j hj sL q hq;have hs:=(Cz.1 F.srt).1 j ry;rw[jk hk,jk hj] at hs;have tL:=(g.var j hj sL).1;have oR:ft ar.length l[j]=l[j].var:=by unfold ft;rw[an (by omega)]
   have kK:ft ar.length l[k]=ar.length:=by unfold ft;rw[aj (by omega)]
   omega
  ·exact h
 ·unfold jx;omega
theorem OS (g:GoodL ar l) (h0:∀ v,v < ar.length->0 < SS ar s v) {h:Nat->Nat} {q:Int->Nat} (hh:zG ar s l h) (hq:∀ (k:Nat) (hk:k < l.length),l[k].var < 0->h k=q l[k].leaf):∀ (R:List Nat) (T:Nat->Nat) (done:Nat),Flow ar s l R T done ->
  jx h T R=((run ar s l R T).map fun p=>p.2 * q p.1).sum
 | [],T,done,F=>rfl
 | k::R,T,done,F=>by
  have hk:=F.lt k fJ;have e:l[k]?=some l[k]:=bA hk;rw[run,e];dsimp only
  by_cases hv:l[k].var < 0
  ·rw[an hv,fV,mR,<- OS g h0 hh hq R T _ (F.leaf g hk hv).1];unfold jx;rw[fV,mR,hq k hk hv]
  ·rw[aj hv];obtain ⟨_,_,_,_,_,F',hp⟩:=F.inner g h0 (u:=l[k].var.toNat) hk (by omega);rw[hp h hh,OS g h0 hh hq R _ _ F']
theorem I8 (g:GoodL ar l):∀ (R:List Nat) (T:Nat->Nat),(∀ j∈R,j < l.length)->(run ar s l R T).map Prod.fst=(R.filter fun j=>decide ((l.getD j ⟨0,[],0⟩).var < 0)).map fun j=>(l.getD j ⟨0,[],0⟩).leaf
 | [],T,_=>rfl
 | k::R,T,h=>by
  have hk:=h k fJ;have e:l[k]?=some l[k]:=bA hk;have h':∀ j∈R,j < l.length:=fun j hj=>h j (fI _ hj);rw[run,e];dsimp only;rw[List.filter_cons,jk hk]
  by_cases hv:l[k].var < 0
  ·rw[an hv,eT hv,an rfl,fV,fV,I8 g R T h',jk hk]
  ·rw[aj hv,dk hv,aj (by simp),I8 g R _ h']
end
end Go.Ab
namespace Go.Ab
def cQ (f:Nat->Int) (l:List Nat):Prop:=l.Pairwise fun x y=>f x<=f y
theorem cQ.app {f:Nat->Int} {A B:List Nat}:cQ f (A++B)↔cQ f A/\cQ f B/\∀ a∈A,∀ b∈B,f a<=f b:=List.pairwise_append
theorem cQ.le_last {f:Nat->Int} {A:List Nat} {y:Nat} (h:cQ f (A++[y])):∀ a∈A++[y],f a<=f y:=fun a ha=>by
 rcases im.1 ha with ha | ha
 ·exact (cQ.app.1 h).2.2 a ha y (by simp)
 ·simp at ha;subst ha;exact qQ _
theorem cQ.head_le {f:Nat->Int} {A:List Nat} {y:Nat} (h:cQ f (y::A)):∀ a∈y::A,f y<=f a:=fun a ha=>by
 rcases gB.1 ha with rfl | ha
 ·exact qQ _
 ·exact (Cz.1 h).1 a ha
theorem cQ.put {f:Nat->Int} {x:Nat} {S1 S2:List Nat} (h:cQ f (S1++S2)) (h1:∀ a∈S1,f a<=f x) (h2:∀ b∈S2,f x<=f b):cQ f (S1++x::S2):=by
 obtain ⟨a1,a2,a3⟩:=cQ.app.1 h;refine cQ.app.2 ⟨a1,Cz.2 ⟨h2,a2⟩,fun a ha b hb=>?_⟩
 rcases gB.1 hb with rfl | hb
 ·exact h1 a ha
 ·exact a3 a ha b hb
theorem cQ.both {f:Nat->Int} {L1 L2 R1 R2 M1 M2:List Nat} (hA:cQ f (L1++L2)) (hB:cQ f (R1++R2)) (h1:∀ a∈L1,∀ b∈R2,f a<=f b) (h2:∀ a∈R1,∀ b∈L2,f a<=f b)
  (p1:M1.Perm (L1++R1)) (p2:M2.Perm (L2++R2)) (s1:cQ f M1) (s2:cQ f M2):cQ f (M1++M2)/\(M1++M2).Perm ((L1++L2)++(R1++R2)):=by
 constructor
 ·refine cQ.app.2 ⟨s1,s2,fun a ha b hb=>?_⟩;have ha:=p1.mem_iff.1 ha;have hb:=p2.mem_iff.1 hb
  rcases im.1 ha with ha | ha<;>rcases im.1 hb with hb | hb
  ·exact (cQ.app.1 hA).2.2 a ha b hb
  ·exact h1 a ha b hb
  ·exact h2 a ha b hb
  ·exact (cQ.app.1 hB).2.2 a ha b hb
 ·refine (p1.append p2).trans ?_;rw[ga,ga];refine Cu L1 ?_;rw[<- ga,<- ga];exact List.Perm.append_right R2 List.perm_append_comm
def Edge (T:Nat->Prop) (lo hi s:Nat):Prop:=lo<=s/\s<=hi/\(s=lo\/T (s - 1))/\(s=hi\/¬ T s)
inductive Runs (f:Nat->Int) (n:Nat):List Nat->Prop
 | last (l:List Nat) (h:l.length<=n) (s:cQ f l):Runs f n l
 | more (x l:List Nat) (h:x.length=n) (s:cQ f x) (r:Runs f n l):Runs f n (x++l)
inductive Full (f:Nat->Int) (n:Nat):List Nat->Prop
 | nil:Full f n []
 | more (l x:List Nat) (r:Full f n l) (h:x.length=n) (s:cQ f x):Full f n (l++x)
theorem Full.runs {f:Nat->Int} {n:Nat} {l:List Nat} (h:Full f n l):∀ q,Runs f n q->Runs f n (l++q):=by
 induction h with
 | nil=>exact fun q h=>h
 | more l x r hx s ih=>
  intro q hq;rw[ga];exact ih _ (.more x q hx s hq)
theorem Runs.one {f:Nat->Int} {n:Nat} {l:List Nat} (h:Runs f n l) (hn:l.length<=n):cQ f l:=by
 cases h with
 | last _ _ s=>exact s
 | more x l hx s r=>
  have:l=[]:=nY (by simp at hn;omega);subst this;simpa using s
theorem Runs.two {f:Nat->Int} {n:Nat} {q:List Nat} (h:Runs f n q) (hn:0 < n) (hl:n < q.length):∃ x r,q=x++r/\x.length=n/\cQ f x/\Runs f n r:=by
 cases h with
 | last _ h _=>omega
 | more x l hx s r=>exact ⟨x,l,rfl,hx,s,r⟩
end Go.Ab
namespace Go.Ab
noncomputable section
open Go.Proofs.Tryz
end
end Go.Ab
namespace Go.Ab
noncomputable section
open Go.Proofs.Tryz
def Kv (m:af):St:=⟨(bD (aP (aH []))),m⟩
def GO (x2:AV) (m:af):St:=⟨(aO (x2::bD (aO []))),m⟩
def FM (x8 x9 aE:AV) (m:af) (K:KT):OM:=b8 11 (ck (c2 (c2 (aC f11)))) 4 (aY (x8::x9::aE::aY (aO []))) m K
abbrev qaP (K:KT):KT:=bF 11 (c2 (c2 (c2 (aC f11)))) K
abbrev qaQ (K:KT):KT:=bu 0 (qaP K)
abbrev JM (K:KT):KT:=(qaQ K)
theorem T11 (a0:AV) (m:af):AC ae 11 [a0] m=(aK false a0).bind fun v1=>(ag .other .gtr v1 (.int .i64 16)).bind fun v2=>aw v2 (some ((.int .i64 2),m)) ((aK false a0).bind fun v3=>FM a0 v3 (.int .i64 0) m (JM (aF ae.P f11.results.toList))):=
(bh ae 11 [a0] m (fn:=f11) (c:=aC f11) qhr rfl).trans (by kernel_rfl)
theorem Qc (x8 x9 aE:AV) (m:af) (K:KT):FM x8 x9 aE m K=(ag .other .lss aE x9).bind fun v1=>aw v1 ((aG none x8 aE).bind fun v2=>(ai none m v2).bind fun v3=>(ag .other .lss v3 (.int .i64 1)).bind fun v4=>aw v4 (K .ret (GO (.int .i64 1) m)) ((ag .other .gtr v3 (.int .i64 64)).bind fun v5=>aw v5 (K .ret (GO (.int .i64 1) m)) ((ag .other .add aE (.int .i64 1)).bind fun v6=>FM x8 x9 v6 m K))) (K (.exit 0) (Kv m)):=
(b7 (bX _) _ _ _).trans (by kernel_rfl)
theorem qaS (m:af):JM (aF ae.P f11.results.toList) (.exit 0) (Kv  m)=some ((.int .i64 0),m):=by kernel_rfl
theorem qaR (x2:AV) (m:af):JM (aF ae.P f11.results.toList) .ret (GO x2 m)=some (x2,m):=by kernel_rfl
def Rh (x5:AV) (m:af):St:=⟨(aP (aH (x5::bD []))),m⟩
def Rx (x4:AV) (m:af):St:=⟨(aP (x4::bD (aH []))),m⟩
def FQ (x1 x5 x8 x9 aE:AV) (m:af) (K:KT):OM:=b8 12 (ck (c2 (c2 (aC f12)))) 3 (aH (x1::aO (aH (x5::aO (x8::x9::aE::aY (aO (aH []))))))) m K
abbrev qbd (K:KT):KT:=bF 12 (c2 (c2 (c2 (aC f12)))) K
abbrev qbe (K:KT):KT:=bu 0 (qbd K)
abbrev Fg (K:KT):KT:=(qbe K)
theorem T12 (a0 a1:AV) (m:af):AC ae 12 [a0,a1] m=(aK false a0).bind fun v1=>FQ a1 (.int .i64 1) a0 v1 (.int .i64 0) m (Fg (aF ae.P f12.results.toList)):=
(bh ae 12 [a0,a1] m (fn:=f12) (c:=aC f12) qhy rfl).trans (by kernel_rfl)
theorem Qj (x1 x5 x8 x9 aE:AV) (m:af) (K:KT):FQ x1 x5 x8 x9 aE m K=(ag .other .lss aE x9).bind fun v1=>aw v1 ((aG none x8 aE).bind fun v2=>(ai none m v2).bind fun v3=>(ag .other .mul x5 v3).bind fun v4=>(ag .other .gtr v4 x1).bind fun v5=>aw v5 (K .ret (Rx (.int .i64 0) m)) ((ag .other .add aE (.int .i64 1)).bind fun v6=>FQ x1 v4 x8 x9 v6 m K)) (K (.exit 0) (Rh x5 m)):=
(b7 (bX _) _ _ _).trans (by kernel_rfl)
theorem qbg (x5:AV) (m:af):Fg (aF ae.P f12.results.toList) (.exit 0) (Rh x5 m)=some (x5,m):=by kernel_rfl
theorem qbf (x4:AV) (m:af):Fg (aF ae.P f12.results.toList) .ret (Rx x4 m)=some (x4,m):=by kernel_rfl
def Ri (m:af):St:=⟨(bI (aY (aP (aH [])))),m⟩
def Ry (x4:AV) (m:af):St:=⟨(aP (x4::bI (aY []))),m⟩
def FW (x2 x3 td pf:AV) (m:af) (K:KT):OM:=b8 142 (ck (c2 (c2 (aC f142)))) 4 (aO (x2::x3::bD (aY (aH (td::pf::aY (aP (aO []))))))) m K
abbrev qbF (K:KT):KT:=bF 142 (c2 (c2 (c2 (aC f142)))) K
abbrev qbG (K:KT):KT:=bu 0 (qbF K)
abbrev Fi (K:KT):KT:=(qbG K)
theorem qfw (a0 a1:AV) (m:af):AC ae 142 [a0,a1] m=(eR none (some 3) m a0).bind fun r1=>(eR none (some 3) r1.2 a1).bind fun r2=>(aS 0 r1.1).bind fun v3=>(ai none r2.2 v3).bind fun v4=>(aS 0 r2.1).bind fun v5=>(ai none r2.2 v5).bind fun v6=>(ag .other .neq v4 v6).bind fun v7=>aw v7 (some ((.bool false),r2.2)) ((aS 2 r1.1).bind fun v8=>(ai none r2.2 v8).bind fun v9=>(aS 2 r2.1).bind fun v10=>(ai none r2.2 v10).bind fun v11=>(ag .other .neq v9 v11).bind fun v12=>aw v12 (some ((.bool false),r2.2)) ((aS 1 r1.1).bind fun bp=>(ai none r2.2 bp).bind fun bj=>(aK false bj).bind fun bn=>(aS 1 r2.1).bind fun bO=>(ai none r2.2 bO).bind fun bB=>(aK false bB).bind fun fk=>(ag .other .neq bn fk).bind fun eU=>aw eU (some ((.bool false),r2.2)) ((aS 1 r1.1).bind fun v20=>(ai none r2.2 v20).bind fun v21=>(aK false v21).bind fun v22=>FW r1.1 r2.1 v22 (.int .i64 0) r2.2 (Fi (aF ae.P f142.results.toList))))):=
(bh ae 142 [a0,a1] m (fn:=f142) (c:=aC f142) qhQ rfl).trans (by kernel_rfl)
theorem Qs (x2 x3 td pf:AV) (m:af) (K:KT):FW x2 x3 td pf m K=(ag .other .lss pf td).bind fun v1=>aw v1 ((aS 1 x2).bind fun v2=>(ai none m v2).bind fun v3=>(aG none v3 pf).bind fun v4=>(ai none m v4).bind fun v5=>(aS 1 x3).bind fun v6=>(ai none m v6).bind fun v7=>(aG none v7 pf).bind fun v8=>(ai none m v8).bind fun v9=>(ag .other .neq v5 v9).bind fun v10=>aw v10 (K .ret (Ry (.bool false) m)) ((ag .other .add pf (.int .i64 1)).bind fun v11=>FW x2 x3 td v11 m K)) (K (.exit 0) (Ri m)):=
(b7 (bX _) _ _ _).trans (by kernel_rfl)
theorem qbI (m:af):Fi (aF ae.P f142.results.toList) (.exit 0) (Ri  m)=some ((.bool true),m):=by kernel_rfl
theorem qbH (x4:AV) (m:af):Fi (aF ae.P f142.results.toList) .ret (Ry x4 m)=some (x4,m):=by kernel_rfl
end
end Go.Ab
namespace Go.Ab
open Go.Proofs Go.Proofs.Tryz
def sc (n:Int):Bool:=decide (1<=n/\n<=64)
def og (ns:List Int):Int:=if ns.length > 16 then 2 else if ns.all sc then 0 else 1
theorem Sy (z:Bool) (o:Own) (ns:List Int) (hl:ns.length<=16) (m:af) (K:KT):∀ j i:Nat,i+j=ns.length->FM (IA z o ns) (.int .i64 ns.length) (.int .i64 i) m K=if (ns.drop i).all sc then K (.exit 0) (Kv m) else K .ret (GO (.int .i64 1) m)
 | 0,i,h=>by
  rw[Qc,dp,aa,az,aj (by omega),jA (by omega)];rfl
 | j+1,i,h=>by
  have hi:i < ns.length:=by omega
  have ih:=Sy z o ns hl m K j (i+1) (by omega);rw[Qc,dp,aa,az,an hi,j6 hi,aa,gz,aa,bg,aa,az,kP hi,nX]
  by_cases h1:ns[i] < 1
  ·rw[an h1,show sc ns[i]=false from dk (by omega)];rfl
  ·rw[aj h1,hJ,aa,az]
   by_cases h2:ns[i] > 64
   ·rw[an h2,show sc ns[i]=false from dk (by omega)];rfl
   ·rw[aj h2,cG (by omega),aa,ih,show sc ns[i]=true from eT (by omega),il]
theorem V12 (z:Bool) (o:Own) (ns:List Int):AP ae 11 [IA z o ns]=some (.int .i64 (og ns)):=by
 refine iH (m:=[]) (v:=.int .i64 (og ns)) (l:=[]) ?_ rfl rfl;unfold og;rw[T11,iI,aa,show ((16:Int))=((16:Nat):Int) from rfl,Bj,aa,az]
 by_cases h:ns.length > 16
 ·rw[an h,an h]
 ·rw[aj h,aj h,aa,show ((0:Int))=((0:Nat):Int) from rfl,Sy z o ns (by omega) [] _ ns.length 0 (by omega),jT]
  by_cases h2:ns.all sc=true
  ·rw[an h2,an h2,qaS];rfl
  ·rw[aj h2,aj h2,qaR]
theorem XF (z:Bool) (o:Own) (ns:List Int) (d:Option Nat) (m:af):aD (AP ae) d m 11 [IA z o ns]=some (.int .i64 (og ns),m):=by
 rw[cw (nA z o ns),V12];rfl
theorem xW {ns:List Int} (h:og ns=0):ns.length<=16/\∀ a∈ns,1<=a/\a<=64:=by
 unfold og at h
 split at h
 ·cases h
 ·split at h
  ·rename_i h1 h2;exact ⟨by omega,fun a ha=>by have:=fQ.1 h2 a ha;exact rD this⟩
  ·cases h
def oF (most:Int):Int->List Int->Int
 | acc,[]=>acc
 | acc,n::l=>if acc * n > most then 0 else oF most (acc * n) l
theorem SB (z:Bool) (o:Own) (ns:List Int) (hl:ns.length<=16) (hb:∀ a∈ns,1<=a/\a<=64) (most:Int) (hm:0<=most/\most<=1048576) (m:af):∀ (j i:Nat) (acc:Int),i+j=ns.length->1<=acc->acc<=most\/acc=1 ->
  FQ (.int .i64 most) (.int .i64 acc) (IA z o ns) (.int .i64 ns.length) (.int .i64 i) m (Fg (aF ae.P f12.results.toList))=some (.int .i64 (oF most acc (ns.drop i)),m)
 | 0,i,acc,h,h1,h2=>by
  rw[Qj,dp,aa,az,aj (by omega),jA (by omega),qbg];rfl
 | j+1,i,acc,h,h1,h2=>by
  have hi:i < ns.length:=by omega
  have ha:=hb ns[i] (bM hi);have p1:acc * ns[i]<=1048576 * 64:=Int.mul_le_mul (by omega) ha.2 (by omega) (by omega)
  have p2:1<=acc * ns[i]:=by
   have:=Int.mul_le_mul h1 ha.1 (by omega) (by omega);simpa using this
  rw[Qj,dp,aa,az,an hi,j6 hi,aa,gz,aa,we,aa,iK (by omega) (by omega),hJ,aa,az,kP hi,oF]
  by_cases h3:acc * ns[i] > most
  ·rw[an h3,an h3,qbf]
  ·rw[aj h3,aj h3,cG (by omega),aa];exact SB z o ns hl hb most hm m j (i+1) _ (by omega) p2 (.inl (by omega))
theorem V27 (z:Bool) (o:Own) (ns:List Int) (hl:ns.length<=16) (hb:∀ a∈ns,1<=a/\a<=64) (most:Int) (hm:0<=most/\most<=1048576):AP ae 12 [IA z o ns,.int .i64 most]=some (.int .i64 (oF most 1 ns)):=by
 refine iH (m:=[]) (v:=.int .i64 (oF most 1 ns)) (l:=[]) ?_ rfl rfl;rw[T12,iI,aa,show ((0:Int))=((0:Nat):Int) from rfl,SB z o ns hl hb most hm [] ns.length 0 1 (by omega) (by omega) (.inr rfl),jT]
theorem Ov (z:Bool) (o:Own) (ns:List Int) (hl:ns.length<=16) (hb:∀ a∈ns,1<=a/\a<=64) (most:Int) (hm:0<=most/\most<=1048576) (d:Option Nat) (m:af):aD (AP ae) d m 12 [IA z o ns,.int .i64 most]=some (.int .i64 (oF most 1 ns),m):=by
 rw[fP (nA z o ns) (gu _ _),V27 z _ ns hl hb most hm];rfl
theorem qhf (m:af) (z:Bool) (o:Own) (ns:List Int) (hl:ns.length<=1000000):∃ o' m',cg none false 3 none 8 m (.lst none false .full []) (IA z o ns)=some (IA false o' ns,m')/\Fr m m' []/\(o'=.full/\ns=[]\/o'=.tok m.length 3):=by
 cases ns with
 | nil=>exact ⟨.full,m,rfl,Fr.refl _ _,.inl ⟨rfl,rfl⟩⟩
 | cons n ns=>
  have hb:(0+(ns.length+1)) * 8<=gL:=by unfold gL;simp at hl;omega
  refine ⟨.tok m.length 3,m++[some (Ent.tok (0+(ns.length+1)) 1)],?_,Fr.app m _ _,.inr rfl⟩;simp only[cg,fV,aM,aJ,bU,hb,bq,or_true,jM,lL,aA,bE,Sh.size]
  rfl
theorem O0 (z:Bool) (o:Own) (ns:List Int) (k:IntKind) (i:Nat) (h:i<=ns.length):kU none (IA z o ns) none (some (.int k i)) none=some (IA z .no (ns.take i)):=by
 simp[kU,qg,jj,h,xL]
def kz (n:ND):Bool:=if n.var < 0 then true else false
def ko (n:ND):Own:=if n.var < 0 then .full else .no
theorem uc {n:ND} (h:n.ok):fc n=IA (kz n) (ko n) n.kids:=by
 unfold fc kz ko
 split
 ·rename_i hv
  rcases h with ⟨_,h2,_⟩ | ⟨h1,_⟩
  ·rw[h2];rfl
  ·omega
 ·rfl
theorem SG {m:af} {b1 b2:Nat} {a1 a2 c1 c2:AV} {z1 z2:Bool} {o1 o2:Own} {k1 k2:List Int} (hb1:m.get b1=some (Ent.obj true [a1,IA z1 o1 k1,c1])) (hb2:m.get b2=some (Ent.obj true [a2,IA z2 o2 k2,c2])) (hl:k1.length=k2.length) (ja:k1.length<=100000):∀ j i:Nat,i+j=k1.length ->
  FW (.ptr b1 0) (.ptr b2 0) (.int .i64 k1.length) (.int .i64 i) m (Fi (aF ae.P f142.results.toList))=some (.bool (decide (k1.drop i=k2.drop i)),m)
 | 0,i,h=>by
  rw[Qs,bg,aa,az,aj (by omega),jA (by omega),jA (by omega),qbI];rfl
 | j+1,i,h=>by
  have hi:i < k1.length:=by omega
  have hi2:i < k2.length:=by omega
  have x1:=j6 (z:=z1) (o:=o1) (k:=.i64) hi;have x2:=j6 (z:=z2) (o:=o2) (k:=.i64) hi2;have ih:=SG hb1 hb2 hl ja j (i+1) (by omega);rw[Qs,bg,aa,az,an (by omega)]
  repeat ((with_reducible (first | apply bs | apply eX));(focus (first | (simp (disch:=(first | assumption | omega | (simp only[aI,aZ,aJ,aM];first | done | omega))) only[eW,beq_self_eq_true,cO,aa,Sh.size,bq,bC,Nat.reduceAdd,Nat.reduceLeDiff,aR,hb1,hb2,x1,x2];first | done | rfl) | rfl));try dsimp only)
  rw[az,kP hi,kP hi2]
  by_cases he:k1[i]=k2[i]
  ·rw[aj (by simpa using he),cG (by omega),aa,ih];congr 3;exact jD.2 (by rw[he];exact ⟨fun e=>by rw[e],fun e=>(List.cons.inj e).2⟩)
  ·rw[an he,qbH];congr 3;exact (dk (fun e=>he (List.cons.inj e).1)).symm
theorem V60 {a b:ND} (ha:a.ok) (hb:b.ok):AP ae 142 [a.av,b.av]=some (.bool (decide (a=b))):=by
 have oh:a.av=.agg [.int .i64 a.var,IA (kz a) (ko a) a.kids,.int .i64 a.leaf]:=by rw[ND.av,uc ha]
 have hbv:b.av=.agg [.int .i64 b.var,IA (kz b) (ko b) b.kids,.int .i64 b.leaf]:=by rw[ND.av,uc hb]
 have hl:∀ {n:ND},n.ok->n.kids.length<=64:=fun h=>by
  rcases h with ⟨_,h2,_⟩ | ⟨_,_,_,_,h5⟩
  ·rw[h2];simp
  ·exact h5
 have l1:=hl ha;have l2:=hl hb;rw[oh,hbv]
 have key:AC ae 142 [.agg [.int .i64 a.var,IA (kz a) (ko a) a.kids,.int .i64 a.leaf],.agg [.int .i64 b.var,IA (kz b) (ko b) b.kids,.int .i64 b.leaf]] []=some (.bool (decide (a=b)),[some (Ent.obj true [.int .i64 a.var,IA (kz a) (ko a) a.kids,.int .i64 a.leaf]),some (Ent.obj true [.int .i64 b.var,IA (kz b) (ko b) b.kids,.int .i64 b.leaf])]):=by
  rw[qfw]
  repeat ((with_reducible (first | apply bs | apply eX));(focus (first | (simp (disch:=(first | assumption | omega | (simp only[aI,aZ,aJ,aM];first | done | omega))) only[eW,beq_self_eq_true,cO,aa,Sh.size,bq,bC,Nat.reduceAdd,Nat.reduceLeDiff,aR,An,iI];first | done | rfl) | rfl));try dsimp only)
  rw[az]
  by_cases h1:a.var=b.var
  ·rw[aj (by simpa using h1)]
   repeat ((with_reducible (first | apply bs | apply eX));(focus (first | (simp (disch:=(first | assumption | omega | (simp only[aI,aZ,aJ,aM];first | done | omega))) only[eW,beq_self_eq_true,cO,aa,Sh.size,bq,bC,Nat.reduceAdd,Nat.reduceLeDiff,aR,An,iI];first | done | rfl) | rfl));try dsimp only)
   rw[az]
   by_cases h2:a.leaf=b.leaf
   ·rw[aj (by simpa using h2)]
    repeat ((with_reducible (first | apply bs | apply eX));(focus (first | (simp (disch:=(first | assumption | omega | (simp only[aI,aZ,aJ,aM];first | done | omega))) only[eW,beq_self_eq_true,cO,aa,Sh.size,bq,bC,Nat.reduceAdd,Nat.reduceLeDiff,aR,An,iI];first | done | rfl) | rfl));try dsimp only)
    rw[az]
    by_cases h3:a.kids.length=b.kids.length
    ·rw[aj (by omega)]
     repeat ((with_reducible (first | apply bs | apply eX));(focus (first | (simp (disch:=(first | assumption | omega | (simp only[aI,aZ,aJ,aM];first | done | omega))) only[eW,beq_self_eq_true,cO,aa,Sh.size,bq,bC,Nat.reduceAdd,Nat.reduceLeDiff,aR,An,iI];first | done | rfl) | rfl));try dsimp only)
     have w:=SG (m:=[some (Ent.obj true [.int .i64 a.var,IA (kz a) (ko a) a.kids,.int .i64 a.leaf])]++[some (Ent.obj true [.int .i64 b.var,IA (kz b) (ko b) b.kids,.int .i64 b.leaf])]) (b1:=0) (b2:=1) rfl rfl h3 (by omega) a.kids.length 0 (by omega);rw[jT,jT] at w;refine w.trans ?_;congr 3;refine jD.2 ⟨fun e=>?_,fun e=>by rw[e]⟩;obtain ⟨av,ak,al⟩:=a;obtain ⟨bv,bk,bl⟩:=b;simp only at h1 h2 e;rw[h1,h2,e]
    ·rw[an (by omega)];congr 3;exact (dk (fun e=>h3 (by rw[e]))).symm
   ·rw[an h2];congr 3;exact (dk (fun e=>h2 (by rw[e]))).symm
  ·rw[an h1];congr 3;exact (dk (fun e=>h1 (by rw[e]))).symm
 refine iH key rfl rfl
theorem qkv (n:ND):Fz n.av n.av:=fun m=>by
 unfold ND.av fc;split<;>rfl
abbrev NL (z:Bool) (o:Own) (l:List ND):AV:=.lst (some 3) z o (l.map ND.av)
theorem Wg (z:Bool) (o:Own) (l:List ND):aK false (NL z o l)=some (.int .i64 l.length):=by rw[oW,bU]
theorem Nz {z:Bool} {o:Own} {l:List ND} {i:Nat} (hi:i < l.length):aG (some 3) (NL z o l) (.int .i64 i)=some (.vptr [.int .i64 l[i].var,fc l[i],.int .i64 l[i].leaf]):=by
 simp[aG,hi];rfl
theorem Ir (m:af) (n:ND):ai (some 3) m (.vptr [.int .i64 n.var,fc n,.int .i64 n.leaf])=some n.av:=rfl
end Go.Ab
namespace Go.Ab
open Go.Proofs Go.Proofs.Tryz
theorem YS {m:af} {k:Nat} {a b c a' b' c':AV} (h:m.get k=some (Ent.obj true [a,b,c])) (hs:cZ (some 3) (.agg [a',b',c'])=true):aN (some 3) m (.ptr k 0) (.agg [a',b',c'])=some (m.set k (some (Ent.obj true [a',b',c']))):=by
 rw[qh,h,j7,aa];simp[cO,Sh.size,hs,bC,AV.cells]
section
variable {m:af} {s:Nat} {F:List Nat} {arms:AV} {most:Int} {l:List ND}
def V0 (l:List ND):Prop:=∀ n∈l,¬ n.var < 0->n.kids≠[]
theorem ZO (k:Int) (m:af):AC ae 93 [.int .i64 k] m=some (.bool (!sc k),m):=by
 rw[T93,bg,aa,az]
 by_cases h1:k < 1
 ·rw[an h1,sc,dk (by omega)];rfl
 ·rw[aj h1,hJ,aa,sc,<- decide_not];congr 3;exact jD.2 (by omega)
theorem qjH (z:Bool) (ns:List Int) (h:z=true->ns=[]):∃ z' o',xY z ns=IA z' o' ns/\(o'=.no\/o'=.full)/\(z'=true->ns=[]):=by
 cases z with
 | true=>rw[h rfl];exact ⟨true,.full,rfl,.inr rfl,fun _=>rfl⟩
 | false=>
  cases ns with
  | nil=>exact ⟨false,.full,rfl,.inr rfl,fun h=>by cases h⟩
  | cons n ns=>exact ⟨false,.no,rfl,.inl rfl,fun h=>by cases h⟩
theorem PD (m:af) (z:Bool) (o:Own) (ns:List Int) (hz:z=true->ns=[]) (he:og ns=0) :
  ∃ m' s F z' o',AC ae 32 [IA z o ns] m=some (.tup [.ptr s 0,.int .i64 0],m')/\eQ m' s F (IA z' o' ns) 4000 []/\Fr m m' []/\(∀ x∈F,m.length<=x):=by
 obtain ⟨h1,h2⟩:=xW he;obtain ⟨m1,e47,f1⟩:=PG (m:=m) (z:=z) (o:=o) (ks:=ns) (g:=93) (caps:=[]) (p:=fun k=>!sc k) (by omega) rfl rfl rfl (fun m1 k _=>⟨m1,ZO k m1,Fr.refl _ _⟩);have ha:ns.all sc=true:=fQ.2 fun a ha=>eT (h2 a ha);rw[SW,ha,jN] at e47;obtain ⟨z',o',ec,_,_⟩:=qjH z ns hz;have c49:=fun m=>Ow z o ns (by omega) m;rw[ec] at c49;have l1:=f1.len
 refine ⟨(m1++[some (Ent.mp .str [])])++[some (Ent.obj true [IA z' o' ns,au,.mref m1.length,.int .i64 4000])],m1.length+1,[m1.length+1,m1.length],z',o',?_,?_,(f1.snoc _).snoc _,?_⟩
 ·have hb:fR (.agg [au,au,.nilm,(.int .i64 0)]) [(0,none,IA z' o' ns),(2,none,(.mref m1.length)),(3,none,(.int .i64 4000))]=some (.agg [IA z' o' ns,au,.mref m1.length,.int .i64 4000]):=rfl;have hx:∀ m,eR none (some 4) m (.agg [IA z' o' ns,au,.mref m1.length,.int .i64 4000])=some (.ptr m.length 0,m++[some (Ent.obj true [IA z' o' ns,au,.mref m1.length,.int .i64 4000])]):=fun m=>rfl;rw[T32,iI,aa,hJ,aa,az,aj (by omega),e47,aa,ig]
  repeat ((with_reducible (first | apply bs | apply eX));(focus (first | (simp (disch:=(first | assumption | omega | (simp only[aI,aZ,aJ,aM];first | done | omega))) only[eW,beq_self_eq_true,cO,aa,Sh.size,bq,bC,Nat.reduceAdd,Nat.reduceLeDiff,aR,c49,hb,hx];first | done | rfl) | rfl));try dsimp only)
 ·refine ⟨m1.length,au,[],⟨(by simp (disch:=(first | assumption | omega | (simp only[aI,aZ,aJ,aM];first | done | omega))) only[gK,cn,bV,cF,dM];first | done | rfl),(by simp (disch:=(first | assumption | omega | (simp only[aI,aZ,aJ,aM];first | done | omega))) only[gK,cn,bV,cF,dM];first | done | rfl),.none,by simp,by omega,by simp⟩,rfl⟩
 ·intro x hx;simp only[gB,Cy,or_false] at hx;omega
end
inductive NR (e:Nat) (m:af):AV->List ND->List Nat->Prop
 | none:NR e m au [] []
 | some (t:Nat) (l:List ND) (ht:m.get t=some (.tok l.length 3)):NR e m (.lst (some 3) false (.tok t e) (l.map ND.av)) l [t]
theorem vB {e:Nat} {m m':af} {x:AV} {l:List ND} {T:List Nat} (h:NR e m x l T) (f:∀ k∈T,m'.get k=m.get k):NR e m' x l T:=by
 cases h with
 | none=>exact .none
 | some t l ht=>exact .some t l ((f t (by simp)).trans ht)
theorem vA {e:Nat} {m:af} {x:AV} {l:List ND} {T:List Nat} (h:NR e m x l T):∀ k∈T,k < m.length:=by
 cases h with
 | none=>simp
 | some t l ht=>
   intro k hk;obtain rfl:k=t:=by simpa using hk
   exact bJ ht
theorem Oj {e:Nat} {m:af} {x:AV} {l:List ND} {T:List Nat} (h:NR e m x l T):aK false x=some (.int .i64 l.length):=by
 cases h with
 | none=>rfl
 | some t l ht=>rw[oW,bU]
theorem qm6 {e:Nat} {m:af} {x:AV} {l:List ND} {T:List Nat} (h:NR e m x l T) {i:Nat} (hi:i < l.length):aG (some 3) x (.int .i64 i)=some (.vptr [.int .i64 l[i].var,fc l[i],.int .i64 l[i].leaf]):=by
 cases h with
 | none=>simp at hi
 | some t l ht=>exact Nz hi
theorem qjq (n:ND):fh (some 3) [n.av]=some (NL false .full [n]):=by
 show fh (some 3) [.agg [.int .i64 n.var,fc n,.int .i64 n.leaf]]=some (.lst (some 3) false .full [.agg [.int .i64 n.var,fc n,.int .i64 n.leaf]]);unfold fc;split<;>rfl
theorem VK {n:ND}:∀ {l:List ND} {i:Nat} (hi:i < l.length),l[i]=n->(∀ t (ht:t < l.length),t < i->l[t]≠n)->l.idxOf n=i
 | [],i,hi,_,_=>by simp at hi
 | x::l,0,_,h,_=>by
  have h:x=n:=h;rw[h];simp
 | x::l,i+1,hi,h,hne=>by
  have hx:x≠n:=hne 0 (by simp) (by omega)
  rw[List.idxOf_cons,cond_eq_ite,aj (by simpa using hx),VK (l:=l) (i:=i) (by simpa using hi) (by simpa using h) (fun t ht hti=>by
   have:=hne (t+1) (by simpa using ht) (by omega)
   simpa using this)]
end Go.Ab
namespace Go.Ab
noncomputable section
open Go.Proofs.Tryz
theorem T15 (a0 a1:AV) (m:af):AC ae 15 [a0,a1] m=(AC ae 32 [a0] m).bind fun r1=>(ba r1.1 0).bind fun v2=>(ba r1.1 1).bind fun v3=>(ag .other .neq v3 (.int .i64 0)).bind fun v4=>aw v4 (some ((.tup [.nilp,(.int .i64 0),(.bool false)]),r1.2)) ((AC ae 62 [v2,a0,a1,(.int .i64 0)] r1.2).bind fun r5=>(ba r5.1 0).bind fun v6=>(ba r5.1 1).bind fun v7=>(ag .other .eql v7 (.int .i64 0)).bind fun v8=>some ((.tup [v2,v6,v8]),r5.2)):=
(bh ae 15 [a0,a1] m (fn:=f15) (c:=aC f15) qhV rfl).trans (by kernel_rfl)
def Rt (x0 x3 aE:AV) (m:af):St:=⟨(x0::aO (x3::aP (aO (aE::bI (bD (aY (aP []))))))),m⟩
def qe9 (x8 x9:AV) (m:af):St:=⟨(aY (x8::x9::bI (bD (aY (aP (aH [])))))),m⟩
def zW (x0 x1 x2 x3 aE aW aL:AV) (m:af) (K:KT):OM:=b8 62 (ck (bo (aC f62))) 6 (x0::x1::x2::x3::aP (aO (aE::aW::aL::bI (bD (aY (aO [])))))) m K
abbrev qdX (K:KT):KT:=bF 62 (bo (c2 (aC f62))) K
abbrev qdY (K:KT):KT:=bu 0 (qdX K)
abbrev B7 (K:KT):KT:=(qdY K)
theorem RR (a0 a1 a2 a3:AV) (m:af):AC ae 62 [a0,a1,a2,a3] m=(aK false a1).bind fun v1=>(ag .other .eql a3 v1).bind fun v2=>aw v2 ((aG none a2 (.int .i64 0)).bind fun v3=>(ai none m v3).bind fun v4=>(AC ae 33 [a0,v4] m).bind fun r5=>(ba r5.1 0).bind fun v6=>(ba r5.1 1).bind fun v7=>some ((.tup [v6,v7]),r5.2)) ((aK false a2).bind fun v8=>(aG none a1 a3).bind fun v9=>(ai none m v9).bind fun v10=>(ag .other .quo v8 v10).bind fun v11=>zW a0 a1 a2 a3 au v11 (.int .i64 0) m (B7 (aF ae.P f62.results.toList))):=
(bh ae 62 [a0,a1,a2,a3] m (fn:=f62) (c:=aC f62) qiK rfl).trans (by kernel_rfl)
theorem Q0 (x0 x1 x2 x3 aE aW aL:AV) (m:af) (K:KT):zW x0 x1 x2 x3 aE aW aL m K=(aG none x1 x3).bind fun v1=>(ai none m v1).bind fun v2=>(ag .other .lss aL v2).bind fun v3=>aw v3 ((ag .other .mul aL aW).bind fun v4=>(ag .other .add aL (.int .i64 1)).bind fun v5=>(ag .other .mul v5 aW).bind fun v6=>(kU none x2 (some v4) (some v6) none).bind fun v7=>(ag .other .add x3 (.int .i64 1)).bind fun v8=>(AC ae 62 [x0,x1,v7,v8] m).bind fun r9=>(ba r9.1 0).bind fun v10=>(ba r9.1 1).bind fun v11=>(ag .other .neq v11 (.int .i64 0)).bind fun v12=>aw v12 (K .ret (qe9 (.int .i64 0) v11 r9.2)) ((fh none [v10]).bind fun bp=>(cg none false 3 none 8 r9.2 aE bp).bind fun jG=>(ag .other .add aL (.int .i64 1)).bind fun bn=>zW x0 x1 x2 x3 jG.1 aW bn jG.2 K)) (K (.exit 0) (Rt x0 x3 aE m)):=
(b7 (bX _) _ _ _).trans (by kernel_rfl)
theorem qdZ (x0 x3 aE:AV) (m:af):B7 (aF ae.P f62.results.toList) (.exit 0) (Rt x0 x3 aE m)=(AC ae 34 [x0,x3,aE] m).bind fun r1=>(ba r1.1 0).bind fun v2=>(ba r1.1 1).bind fun v3=>some ((.tup [v2,v3]),r1.2):=by kernel_rfl
def qeY (aL aX fw x79 x80:AV) (m:af) (K:KT):OM:=b8 3 (ck (bo (bo (bo (aC f3))))) 17 (aY (aP (aL::aH (aX::fw::bI (bD (aY (aP (aO (aH (x79::x80::bI (aY (aH [])))))))))))) m K
abbrev qdq (K:KT):KT:=bF 3 (bo (bo (bo (c2 (aC f3))))) K
abbrev qdr (K:KT):KT:=bu 0 (qdq K)
abbrev qdp (K:KT):KT:=(qdr K)
theorem T3 (a0 a1 a2:AV) (m:af):AC ae 3 [a0,a1,a2] m=(aD (AP ae) none m 10 [a0]).bind fun r1=>(aD (AP ae) none r1.2 11 [r1.1]).bind fun r2=>(ag .other .neq r2.1 (.int .i64 0)).bind fun v3=>aw v3 ((aD (AP ae) none r2.2 13 []).bind fun r4=>some (r4.1,r4.2)) ((aD (AP ae) none r2.2 12 [r1.1,(.int .i64 100)]).bind fun r5=>(ag .other .eql r5.1 (.int .i64 0)).bind fun v6=>aw v6 ((aD (AP ae) none r5.2 13 []).bind fun r7=>some (r7.1,r7.2)) ((aD (AP ae) none r5.2 14 [r1.1,a1]).bind fun r8=>(AC ae 15 [r1.1,r8.1] r8.2).bind fun r9=>(ba r9.1 0).bind fun v10=>(ba r9.1 1).bind fun v11=>(ba r9.1 2).bind fun v12=>(jg .not v12).bind fun bp=>aw bp (some ((.bool false),r9.2)) ((aD (AP ae) none r9.2 16 [r1.1,a2]).bind fun jG=>(AC ae 17 [v10,v11,jG.1] jG.2).bind fun nL=>(ba nL.1 0).bind fun bO=>(ba nL.1 1).bind fun bB=>(aD (AP ae) none nL.2 18 [r1.1,jG.1]).bind fun iJ=>(jg .not iJ.1).bind fun eU=>aw eU ((ag .other .eql bB (.int .i64 1)).bind fun v20=>aw v20 ((aK false bO).bind fun v21=>(ag .other .eql v21 (.int .i64 0)).bind fun v22=>aw v22 ((aD (AP ae) none iJ.2 13 []).bind fun mK=>some (mK.1,mK.2)) (some ((.bool false),iJ.2))) (some ((.bool false),iJ.2))) ((aD (AP ae) none iJ.2 19 [r1.1,r8.1,jG.1]).bind fun nM=>(aD (AP ae) none nM.2 20 []).bind fun kC=>(aN (some 3) (aA none kC.2 (.obj true [(.bool false),au,au])).2 (.ptr (aA none kC.2 .resv).1 0) kC.1).bind fun m26=>(ag .other .neq bB (.int .i64 0)).bind fun jK=>aw jK (some ((.bool false),m26)) ((aK false bO).bind fun v28=>(aK false nM.1).bind fun j9=>(ag .other .neq v28 j9).bind fun v30=>aw v30 (some ((.bool false),m26)) ((aK false bO).bind fun v31=>qeY bO nM.1 (.ptr (aA none kC.2 .resv).1 0) v31 (.int .i64 0) m26 (qdp (aF ae.P f3.results.toList)))))))):=
(bh ae 3 [a0,a1,a2] m (fn:=f3) (c:=aC f3) at3 rfl).trans (by kernel_rfl)
end
end Go.Ab
namespace Go.Ab
open Go.Proofs Go.Proofs.Tryz
theorem W8 {tk:TK} {a b:Nat} (h:b≠0):ag tk .rem (.int .i64 a) (.int .i64 b)=some (.int .i64 (a % b:Nat)):=by
 have e:ag tk .rem (.int .i64 a) (.int .i64 b)=if (b:Int)=0 then none else some (.int .i64 ((a:Int).tmod b)):=by cases tk<;>rfl
 rw[e,aj (by omega)]
 rfl
theorem W7 {tk:TK} {a b:Nat} (h:b≠0) (h':a < 9223372036854775808):ag tk .quo (.int .i64 a) (.int .i64 b)=some (.int .i64 (a / b:Nat)):=by
 have e:ag tk .quo (.int .i64 a) (.int .i64 b)=if (b:Int)=0 then none else some (.int .i64 (IntKind.wrap .i64 ((a:Int).tdiv b))):=by cases tk<;>rfl
 rw[e,aj (by omega)];have e2:(a:Int).tdiv b=((a / b:Nat):Int):=rfl;have:=Af a b;rw[e2];generalize a / b=q at *;rw[iK (by omega) (by omega)]
theorem Bk {tk:TK} {a b:Nat} (h:a * b < 9223372036854775808):ag tk .mul (.int .i64 a) (.int .i64 b)=some (.int .i64 (a * b:Nat)):=by
 rw[we,<- rQ];generalize a * b=q at *;rw[iK (by omega) (by omega)]
inductive GR (e:Nat) (m:af):AV->List AV->List Nat->Prop
 | none:GR e m au [] []
 | some (t:Nat) (es:List AV) (ht:m.get t=some (.tok es.length 1)) (hne:es≠[]):GR e m (.lst none false (.tok t e) es) es [t]
theorem Dq {e:Nat} {m m':af} {x:AV} {l:List AV} {T:List Nat} (h:GR e m x l T) (f:∀ k∈T,m'.get k=m.get k):GR e m' x l T:=by
 cases h with
 | none=>exact .none
 | some t l ht hne=>exact .some t l ((f t (by simp)).trans ht) hne
theorem AE {e:Nat} {m:af} {x:AV} {l:List AV} {T:List Nat} (h:GR e m x l T):∀ k∈T,k < m.length:=by
 cases h with
 | none=>simp
 | some t l ht _=>
  intro k hk;obtain rfl:k=t:=by simpa using hk
  exact bJ ht
theorem Dr {e:Nat} {m:af} {x:AV} {l:List AV} {T:List Nat} (h:GR e m x l T):∃ z o,x=.lst none z o l/\(z=true->l=[]):=by
 cases h with
 | none=>exact ⟨true,.full,rfl,fun _=>rfl⟩
 | some t l ht _=>exact ⟨false,.tok t e,rfl,fun h=>by cases h⟩
theorem AD {e b:Nat} {m:af} {x:AV} {l:List AV} {T:List Nat} (h:GR e m x l T) (hl:l.length < 1000000) (hb:b<=64) (y:AV):∃ x' m' T',cg none false e none b m x (.lst none false .full [y])=some (x',m')/\GR e m' x' (l++[y]) T'/\Fr m m' T/\Gr m T T':=by
 have h2:(l.length+1) * b<=gL:=by
  have:=rZ (show l.length+1<=1000000 by omega) hb;unfold gL;omega
 cases h with
 | none=>
  refine ⟨.lst none false (.tok m.length e) [y],m++[some (Ent.tok 1 1)],[m.length],?_,.some _ [y] (by simp (disch:=(first | assumption | omega | (simp only[aI,aZ,aJ,aM];first | done | omega))) only[gK,cn,bV,cF,dM];first | done | rfl) (by simp),Fr.app m _ _,fun k hk=>?_⟩
  ·have h2:b<=gL:=by simpa using h2
   simp[cg,h2,aA,Sh.size]
  ·obtain rfl:k=m.length:=by simpa using hk
   exact .inr (aR _)
 | some t es ht _=>
  have gF:=bJ ht
  refine ⟨.lst none false (.tok t e) (l++[y]),m.set t (some (Ent.tok (l.length+1) 1)),[t],?_,?_,(Fr.refl m [t]).set _ (.inl (by simp)),Gr.refl _ _⟩
  ·simp[cg,ht,Sh.size,h2]
  ·refine .some t (l++[y]) ?_ (by simp);rw[dM rfl gF,aI];rfl
theorem XQ {most:Int}:∀ (l:List Int) (acc:Int),(∀ a∈l,1<=a)->1<=acc->acc<=most->oF most acc l≠0->oF most acc l=acc * b9 l/\acc * b9 l<=most
 | [],acc,_,h1,h2,_=>by simp only[oF,b9];omega
 | n::l,acc,hl,h1,h2,h=>by
  rw[oF] at h ⊢;have hn:=hl n fJ
  by_cases hg:acc * n > most
  ·rw[an hg] at h;exact absurd rfl h
  ·rw[aj hg] at h ⊢;have hp:1<=acc * n:=by have:=Int.mul_le_mul h1 hn (by omega) (by omega);simpa using this
   have e:=XQ l (acc * n) (fun a ha=>hl a (fI _ ha)) hp (by omega) h
   have e2:acc * ((b9 (n::l):Nat):Int)=acc * n * b9 l:=by
    rw[b9,rQ,Int.toNat_of_nonneg (by omega),Int.mul_assoc]
   rw[e2];exact e
theorem OD {l:List Int} (h:∀ a∈l,1<=a):1<=b9 l:=by
 induction l with
 | nil=>exact aR _
 | cons n l ih=>
  rw[b9];have h1:=h n fJ;exact Nat.mul_pos (by omega) (ih fun a ha=>h a (fI _ ha))
theorem LO (z:Bool) (o:Own) (t:List Int) (k:IntKind) {n i:Nat} (h:(i+1) * n<=t.length):kU none (IA z o t) (some (.int k (i * n:Nat))) (some (.int k ((i+1) * n:Nat))) none=some (IA z .no (part t n i)):=by
 have h2:i * n<=(i+1) * n:=iO _ (by omega);have e:(i+1) * n - i * n=n:=by rw[gX,qW];omega
 have e2:part t n i=(t.take ((i+1) * n)).drop (i * n):=by rw[List.drop_take,e];rfl
 rw[e2]
 have e3:kU none (IA z o t) (some (.int k (i * n:Nat))) (some (.int k ((i+1) * n:Nat))) none=(jj (List.map (AV.int .i64) t).length (some (.int k ((i+1) * n:Nat))) (List.map (AV.int .i64) t).length).bind fun h=>(jj h (some (.int k (i * n:Nat))) 0).bind fun l=>some (.lst none z .no (((List.map (AV.int .i64) t).take h).drop l)):=by
  have e4:∀ (es:List AV) (x y:Option AV),kU none (.lst none z o es) x y none=if (none:Sh)=none\/es=[] then (jj es.length y es.length).bind fun h=>(jj h x 0).bind fun l=>some (.lst none z .no ((es.take h).drop l)) else none:=fun _ _ _=>rfl
  rw[e4,an (.inl rfl)]
 rw[e3]
 have b1:jj (List.map (AV.int .i64) t).length (some (.int k ((i+1) * n:Nat))) (List.map (AV.int .i64) t).length=some ((i+1) * n):=by
  simp only[jj,bU];rw[an ⟨by omega,by omega⟩,cK]
 have b2:jj ((i+1) * n) (some (.int k (i * n:Nat))) 0=some (i * n):=by
  simp only[jj];rw[an ⟨by omega,by omega⟩,cK]
 rw[b1,aa,b2,aa,<- xL,<- List.map_drop]
def PQ (s:Nat) (zs za:Bool) (os oa:Own) (ar:List Int) (v n:Nat):Prop:=
 ∀ (m:af) (F:List Nat) (l:List ND) (t:List Int) (z:Bool) (o:Own),eQ m s F (IA zs os ar) 4000 l->GoodL ar l->t.length=n->(∀ x∈t,0<=x/\x<=4)->l.length+2 * n<=4000->∃ (m':af) (F':List Nat) (r:List ND) (id:Nat),AC ae 62 [.ptr s 0,IA za oa ar,IA z o t,.int .i64 v] m=some (.tup [.int .i64 (id:Nat),.int .i64 0],m') /\
  eQ m' s F' (IA zs os ar) 4000 (l++r)/\GoodL ar (l++r)/\TabV ar (l++r) id v t/\r.length+1<=2 * t.length/\Fr m m' F/\Gr m F F'
theorem qgM {s:Nat} {zs za z:Bool} {os oa o:Own} {ar t:List Int} {v n a:Nat} (hv:v < ar.length) (ha:ar[v]=(a:Int)) (h1:∀ x∈ar,1<=x/\x<=64) (fC:ar.length<=16) (ht:t.length=a * n) (hn:n=b9 (ar.drop (v+1))) (lF:1<=n) (gF:t.length<=300) (hx:∀ x∈t,0<=x/\x<=4)
  {l0:List ND} (vc:l0.length+2 * t.length<=4000) {m0:af} {F0:List Nat} (ih:PQ s zs za os oa ar (v+1) n) :
  ∀ (j k:Nat) (m:af) (F:List Nat) (R:List ND) (ids:List Nat) (x:AV) (T:List Nat),k+j=a->eQ m s F (IA zs os ar) 4000 (l0++R)->GoodL ar (l0++R)->ids.length=k->(∀ i (h:i < ids.length),TabV ar (l0++R) ids[i] (v+1) (part t n i))->R.length+k<=2 * n * k ->
   GR 3 m x ((ids.map Int.ofNat).map (AV.int .i64)) T->(∀ y∈T,y∉F/\m0.length<=y)->Fr m0 m F0->Gr m0 F0 F ->
   ∃ (m':af) (F':List Nat) (r:List ND) (id:Nat),zW (.ptr s 0) (IA za oa ar) (IA z o t) (.int .i64 v) x (.int .i64 n) (.int .i64 k) m (B7 (aF ae.P f62.results.toList))=some (.tup [.int .i64 (id:Nat),.int .i64 0],m') /\
    eQ m' s F' (IA zs os ar) 4000 (l0++r)/\GoodL ar (l0++r)/\TabV ar (l0++r) id v t/\r.length+1<=2 * t.length/\Fr m0 m' F0/\Gr m0 F0 F':=by
 have lY:=h1 _ (bM hv);have aU:ar.getD v 0=(a:Int):=by rw[aT,bA hv,fg,ha]
 have gY:aG none (IA za oa ar) (.int .i64 v)=some (.vptr [.int .i64 a]):=by rw[j6 hv,ha]
 intro j
 induction j with
 | zero=>
  intro k m F R ids x T hk h g uX htab hR ic hT f gr;obtain rfl:k=a:=by omega
  obtain ⟨xz,xo,rfl,hxz⟩:=Dr ic;have hb:R.length+k<=2 * t.length:=by rw[ht,cP k n,<- fB];exact hR
  have bL:∀ i∈ids,∃ h:i < (l0++R).length,(v:Int) < ft ar.length (l0++R)[i]:=fun i hi=>by
   obtain ⟨q,hq,e⟩:=pM hi;have:=htab q hq;rw[e] at this;exact ⟨this.lt,by have:=this.top this.lt;omega⟩
  have fq:(l0++R).length < 4000:=by rw[aI];omega
  obtain ⟨r1,id,er,If,tQ,g2,tv⟩:=qo5 g h1 fC hv (ks:=ids) (t:=t) (by rw[uX,aU]) (by rw[ht,w5 hv,aU,hn];rfl) (fun q hq=>by rw[<- hn];exact htab q hq) (by omega)
  have mk:vt ar (l0++R) v (ids.map Int.ofNat)=(((id:Int),0),(l0++R)++r1):=by
   unfold vt;rw[an,er];refine ⟨by omega,by omega,by rw[cK,aU,bU,uX],fQ.2 fun q hq=>?_⟩;obtain ⟨i,hi,rfl⟩:=iX.1 hq;obtain ⟨hi1,hi2⟩:=bL i hi;unfold ub;simp only[bT,nt];refine ⟨⟨rR i,show (i:Int) < ((l0++R).length:Nat) by omega⟩,?_⟩;have:(Int.ofNat i).toNat=i:=rfl;rw[this,aT,bA hi1,fg];exact hi2
  obtain ⟨m2,F2,e17,k1,k2,k3⟩:=ZI (kz:=xz) (ko:=xo) (ks:=ids.map Int.ofNat) h v (fun hh=>xK.1 (hxz hh)) h1 fC (by rw[bU];omega) (by omega) (by omega);rw[mk] at e17 k1;have e17:AC ae 34 [.ptr s 0,.int .i64 v,.lst none xz xo ((ids.map Int.ofNat).map (AV.int .i64))] m=_:=e17
  refine ⟨m2,F2,R++r1,id,?_,by rw[<- ga];exact k1,by rw[<- ga];exact g2,by rw[<- ga];exact tv,?_,Fr.trans f k2 gr,Gr.trans f.len gr k3⟩
  ·rw[Q0,gY,aa,gz,aa,dp,aa,az,aj (by omega),qdZ,e17,aa]
   rfl
  ·rw[aI]
   by_cases hk1:ids.length=1
   ·rw[tQ hk1];simp;omega
   ·omega
 | succ j ihj=>
  intro k m F R ids x T hk h g uX htab hR ic hT f gr;have u6:k < a:=by omega
  have sD:(k+1) * n<=t.length:=by rw[ht];exact iO _ (by omega)
  have Vd:k * n<=(k+1) * n:=iO _ (by omega);have hpl:(part t n k).length=n:=part_len ht u6
  have UA:R.length+k+2 * n<=2 * t.length:=by
   have:2 * n * k+2 * n<=2 * t.length:=by
    have e:2 * n * k+2 * n=2 * ((k+1) * n):=by rw[gX,qW,gm,fB,cP n k]
    omega
   omega
  obtain ⟨m1,F1,r1,id,e30,k1,k2,k3,k4,k5,k6⟩:=ih m F (l0++R) (part t n k) z .no h g hpl (fun y hy=>hx y (qnt y hy)) (by rw[aI];omega);rw[hpl] at k4;have g1:GR 3 m1 x ((ids.map Int.ofNat).map (AV.int .i64)) T:=Dq ic fun y hy=>k5.get y (AE ic y hy) (hT y hy).1;obtain ⟨x2,m2,T2,ea,g2,f2,gg2⟩:=AD (b:=8) g1 (by simp;omega) (by omega) (.int .i64 (id:Nat))
  have UB:∀ y∈T,y∉F1:=fun y hy hF=>by
   rcases k6 y hF with hh | hh
   ·exact (hT y hy).1 hh
   ·have:=AE ic y hy;omega
  have st2:eQ m2 s F1 (IA zs os ar) 4000 (l0++(R++r1)):=by
   rw[<- ga];exact k1.fr f2 fun y hy hT'=>UB y hT' hy
  have e0:zW (.ptr s 0) (IA za oa ar) (IA z o t) (.int .i64 v) x (.int .i64 n) (.int .i64 k) m (B7 (aF ae.P f62.results.toList))=zW (.ptr s 0) (IA za oa ar) (IA z o t) (.int .i64 v) x2 (.int .i64 n) (.int .i64 (k+1:Nat)) m2 (B7 (aF ae.P f62.results.toList)):=by
   rw[Q0,gY,aa,gz,aa,dp,aa,az,an u6,Bk (by omega),aa,cG (by omega),aa,Bk (by omega),aa,LO z o t .i64 sD,aa,cG (by omega),aa,e30,aa,rj,aa,rl,aa,iY,aa,az,aj (by simp),rh,aa,ea,aa,aa]
  rw[e0]
  refine ihj (k+1) m2 F1 (R++r1) (ids++[id]) x2 T2 (by omega) st2 (by rw[<- ga];exact k2) (by simp[uX]) (fun i hi=>?_) ?_ (by rw[kX,kX];exact g2) (fun y hy=>?_) (Fr.trans (Fr.trans f k5 gr) f2 fun y hy=>.inr (hT y hy).2) (Gr.trans f.len gr k6)
  ·rw[<- ga]
   by_cases hi2:i < ids.length
   ·rw[List.getElem_append_left hi2];exact (htab i hi2).app g r1
   ·have:i=ids.length:=by simp at hi;omega
    subst this;have e:(ids++[id])[ids.length]'(by simp)=id:=by simp
    rw[e,uX];exact k3
  ·rw[aI,gm,mq];omega
  ·rcases gg2 y hy with hh | hh
   ·exact ⟨UB y hh,(hT y hh).2⟩
   ·have l1:=f.len;have l2:=k5.len;exact ⟨fun hF=>by have:=k1.lt y hF;omega,by omega⟩
theorem ZM {s:Nat} {zs za:Bool} {os oa:Own} {ar:List Int} (h1:∀ x∈ar,1<=x/\x<=64) (fC:ar.length<=16) (hp:b9 ar<=300):∀ (d v:Nat),v+d=ar.length->b9 (ar.drop v)<=300->PQ s zs za os oa ar v (b9 (ar.drop v)):=by
 intro d
 induction d with
 | zero=>
  intro v hv wN m F l t z o h g ht hx hl;obtain rfl:v=ar.length:=by omega
  rw[List.drop_length] at ht hl;have ht:t.length=1:=ht;obtain ⟨y,rfl⟩:∃ y,t=[y]:=List.length_eq_one_iff.1 ht;have hy:=hx y (by simp);have hl:l.length+2<=4000:=hl;obtain ⟨r,er,hr,g2,tv⟩:=Wd g (x:=y) ⟨hy.1,by omega⟩;obtain ⟨m2,F2,e15,k1,k2,k3⟩:=ZH h y (by omega) (by omega);rw[wV,an ⟨hy.1,by omega⟩] at e15 k1;dsimp only at e15 k1;rw[er] at k1;refine ⟨m2,F2,r,_,?_,k1,g2,tv,by simp;omega,k2,k3⟩;rw[RR,iI,aa,Eg,aa,az,an rfl,D5 (by simp),aa,gz,aa];have e15:AC ae 33 [.ptr s 0,.int .i64 [y][0]] m=_:=e15;rw[e15,aa]
  rfl
 | succ d ih=>
  intro v hv wN m F l t z o h g ht hx hl;have fT:v < ar.length:=by omega
  have lY:=h1 _ (bM fT);obtain ⟨a,ha⟩:=nW (by omega:0<=ar[v]);have aU:ar.getD v 0=(a:Int):=by rw[aT,bA fT,fg,ha]
  have sI:b9 (ar.drop v)=a * b9 (ar.drop (v+1)):=by rw[w5 fT,aU];rfl
  have lF:1<=b9 (ar.drop (v+1)):=OD fun x hx=>(h1 x (List.drop_subset _ _ hx)).1
  have hle:b9 (ar.drop (v+1))<=b9 (ar.drop v):=by
   rw[sI];exact Nat.le_mul_of_pos_left _ (by omega)
  have ihv:=ih (v+1) (by omega) (by omega);have yP:t.length=a * b9 (ar.drop (v+1)):=by rw[ht,sI]
  obtain ⟨m',F',r,id,e,k⟩:=qgM (z:=z) (o:=o) (m0:=m) (F0:=F) fT ha h1 fC yP rfl lF (by omega) hx (l0:=l) (by omega) ihv a 0 m F [] [] au [] (by omega) (by rw[bP];exact h) (by rw[bP];exact g) rfl (fun i hi=>by simp at hi) (by simp) .none (by simp) (Fr.refl _ _) (Gr.refl _ _);refine ⟨m',F',r,id,?_,k⟩;have gY:aG none (IA za oa ar) (.int .i64 v)=some (.vptr [.int .i64 a]):=by rw[j6 fT,ha]
  have hdiv:t.length / a=b9 (ar.drop (v+1)):=by rw[yP,Nat.mul_div_cancel_left _ (by omega)]
  rw[RR,iI,aa,Eg,aa,az,aj (by omega),iI,aa,gY,aa,gz,aa,W7 (by omega) (by omega),aa,hdiv];exact e
theorem ZL {za z:Bool} {oa o:Own} {ar t:List Int} (m:af) (hz:za=true->ar=[]) (he:og ar=0) (hp:b9 ar<=300) (ht:t.length=b9 ar) (hx:∀ x∈t,0<=x/\x<=4) :
  ∃ m' s F zs os l id,AC ae 15 [IA za oa ar,IA z o t] m=some (.tup [.ptr s 0,.int .i64 (id:Nat),.bool true],m')/\eQ m' s F (IA zs os ar) 4000 l/\GoodL ar l/\TabV ar l id 0 t/\l.length<=600/\Fr m m' []/\∀ x∈F,m.length<=x:=by
 obtain ⟨h1,h2⟩:=xW he;obtain ⟨m1,s,F,zs,os,e14,st,f1,hF⟩:=PD m za oa ar hz he;obtain ⟨m2,F2,r,id,e30,k1,k2,k3,k4,k5,k6⟩:=ZM (s:=s) (zs:=zs) (za:=za) (os:=os) (oa:=oa) h2 h1 hp ar.length 0 (by omega) hp m1 F [] t z o st Mo ht hx (by simp;have:b9 (ar.drop 0)=b9 ar:=rfl;omega);rw[bE] at k1 k2 k3;have e30:AC ae 62 [.ptr s 0,IA za oa ar,IA z o t,.int .i64 0] m1=_:=e30
 refine ⟨m2,s,F2,zs,os,r,id,?_,k1,k2,k3,by omega,(Fr.trans f1 k5 fun x hx=>.inr (hF x hx)),fun x hx=>?_⟩
 ·rw[T15,e14,aa,rj,aa,rl,aa,iY,aa,az,aj (by simp),e30,aa]
  rfl
 ·rcases k6 x hx with hh | hh
  ·exact hF x hh
  ·have:=f1.len;omega
end Go.Ab
namespace Go.Ab
noncomputable section
open Go.Proofs.Tryz
def KQ (m:af):St:=⟨(bI (bD (aO []))),m⟩
def CJ (x4:AV) (m:af):St:=⟨(aP (x4::bI (aY (aP (aH []))))),m⟩
def Ge (x0 fw bS eZ:AV) (m:af) (K:KT):OM:=b8 18 (ck (c2 (c2 (aC f18)))) 4 (x0::aY (aP (aO (fw::bS::eZ::bI [])))) m K
def KR (x0 x5 x6 x7 fw bS eZ:AV) (m:af):St:=⟨(x0::aP (x5::x6::x7::aP (aO (aH (fw::bS::eZ::bI []))))),m⟩
def GQ (x4:AV) (m:af):St:=⟨(aP (x4::bI (aY (aP (aH []))))),m⟩
def Gf (x0 x5 x6 x7 fw bS eZ bW bY cr:AV) (m:af) (K:KT):OM:=b8 18 (ck (lS (lS (pU (aC f18))))) 8 (x0::aP (x5::x6::x7::aP (aO (aH (fw::bS::eZ::aP (bW::bY::cr::bD (aY (aH [])))))))) m K
abbrev qc7 (K:KT):KT:=bF 18 (c2 (c2 (c2 (aC f18)))) K
abbrev qc8 (K:KT):KT:=bu 0 (qc7 K)
abbrev J8 (K:KT):KT:=(qc8 K)
abbrev qdb (K:KT):KT:=bF 18 (lT (nr (c2 (aC f18)))) (oH 18 (ck (c2 (c2 (aC f18)))) 4 K)
abbrev qdc (K:KT):KT:=bu 1 (qdb K)
abbrev qdd (K:KT):KT:=bF 18 (lT (Av (nr (c2 (aC f18))))) (qdc K)
abbrev qde (K:KT):KT:=bu 2 (qdd K)
abbrev Fq (K:KT):KT:=(qde K)
theorem T18 (a0 a1:AV) (m:af):AC ae 18 [a0,a1] m=(aK false a1).bind fun v1=>(aK false a0).bind fun v2=>(ag .other .neq v1 v2).bind fun v3=>aw v3 (some ((.bool false),m)) ((aK false a1).bind fun v4=>Ge a0 a1 v4 (.int .i64 0) m (J8 (aF ae.P f18.results.toList))):=
(bh ae 18 [a0,a1] m (fn:=f18) (c:=aC f18) qie rfl).trans (by kernel_rfl)
theorem QM (x0 fw bS eZ:AV) (m:af) (K:KT):Ge x0 fw bS eZ m K=(ag .other .lss eZ bS).bind fun v1=>aw v1 ((aG none fw eZ).bind fun v2=>(ai none m v2).bind fun v3=>(aK false v3).bind fun v4=>Gf x0 eZ v3 (.int .i64 0) fw bS eZ v3 v4 (.int .i64 0) m (Fq K)) (K (.exit 0) (KQ m)):=
(b7 (bX _) _ _ _).trans (by kernel_rfl)
theorem QN (x0 x5 x6 x7 fw bS eZ bW bY cr:AV) (m:af) (K:KT):Gf x0 x5 x6 x7 fw bS eZ bW bY cr m K=(ag .other .lss cr bY).bind fun v1=>aw v1 ((aG none bW cr).bind fun v2=>(ai none m v2).bind fun v3=>(ag .other .lss v3 (.int .i64 0)).bind fun v4=>aw v4 (K .ret (GQ (.bool false) m)) ((ag .other .gtr v3 (.int .i64 1000)).bind fun v5=>aw v5 (K .ret (GQ (.bool false) m)) ((ag .other .add x7 v3).bind fun v6=>(ag .other .add cr (.int .i64 1)).bind fun v7=>Gf x0 x5 x6 v6 fw bS eZ bW bY v7 m K))) (K (.exit 2) (KR x0 x5 x6 x7 fw bS eZ m)):=
(b7 (bX _) _ _ _).trans (by kernel_rfl)
theorem qda (m:af):J8 (aF ae.P f18.results.toList) (.exit 0) (KQ  m)=some ((.bool true),m):=by kernel_rfl
theorem qc9 (x4:AV) (m:af):J8 (aF ae.P f18.results.toList) .ret (CJ x4 m)=some (x4,m):=by kernel_rfl
theorem qdg (x0 x5 x6 x7 fw bS eZ:AV) (m:af) (K:KT):Fq K (.exit 2) (KR x0 x5 x6 x7 fw bS eZ m)=(aK false x6).bind fun v1=>(aG none x0 x5).bind fun v2=>(ai none m v2).bind fun v3=>(ag .other .neq v1 v3).bind fun v4=>aw v4 (K .ret (CJ (.bool false) m)) ((ag .other .eql x7 (.int .i64 0)).bind fun v5=>aw v5 (K .ret (CJ (.bool false) m)) ((ag .other .add eZ (.int .i64 1)).bind fun v6=>Ge x0 fw bS v6 m K)):=by kernel_rfl
theorem qdf (x4:AV) (m:af) (K:KT):Fq K .ret (GQ x4 m)=K .ret (CJ x4 m):=by kernel_rfl
def Rk (m:af):St:=⟨(bD (aY (aO []))),m⟩
def RA (x4:AV) (m:af):St:=⟨(aP (x4::bD (aP (aH [])))),m⟩
def FY (x0 x1 aL aV:AV) (m:af) (K:KT):OM:=b8 144 (ck (c2 (c2 (aC f144)))) 4 (x0::x1::aY (aO (aL::aV::aY (aP [])))) m K
abbrev qbN (K:KT):KT:=bF 144 (c2 (c2 (c2 (aC f144)))) K
abbrev qbO (K:KT):KT:=bu 0 (qbN K)
abbrev Fk (K:KT):KT:=(qbO K)
theorem qfy (a0 a1:AV) (m:af):AC ae 144 [a0,a1] m=(aK false a0).bind fun v1=>(aK false a1).bind fun v2=>(ag .other .neq v1 v2).bind fun v3=>aw v3 (some ((.bool false),m)) ((aK false a0).bind fun v4=>FY a0 a1 v4 (.int .i64 0) m (Fk (aF ae.P f144.results.toList))):=
(bh ae 144 [a0,a1] m (fn:=f144) (c:=aC f144) qhS rfl).trans (by kernel_rfl)
theorem Qu (x0 x1 aL aV:AV) (m:af) (K:KT):FY x0 x1 aL aV m K=(ag .other .lss aV aL).bind fun v1=>aw v1 ((aG none x0 aV).bind fun v2=>(ai none m v2).bind fun v3=>(aG none x1 aV).bind fun v4=>(ai none m v4).bind fun v5=>(ag .other .neq v3 v5).bind fun v6=>aw v6 (K .ret (RA (.bool false) m)) ((ag .other .add aV (.int .i64 1)).bind fun v7=>FY x0 x1 aL v7 m K)) (K (.exit 0) (Rk m)):=
(b7 (bX _) _ _ _).trans (by kernel_rfl)
theorem qbQ (m:af):Fk (aF ae.P f144.results.toList) (.exit 0) (Rk  m)=some ((.bool true),m):=by kernel_rfl
theorem qbP (x4:AV) (m:af):Fk (aF ae.P f144.results.toList) .ret (RA x4 m)=some (x4,m):=by kernel_rfl
def Rj (m:af):St:=⟨(bD (aH [])),m⟩
def Rz (x2:AV) (m:af):St:=⟨(aO (x2::aY (aP (aO [])))),m⟩
def FX (x0 x5 x6 x7:AV) (m:af) (K:KT):OM:=b8 143 (ck (c2 (aC f143))) 2 (x0::aP (x5::x6::x7::aY (aH []))) m K
abbrev qbJ (K:KT):KT:=bF 143 (c2 (c2 (aC f143))) K
abbrev qbK (K:KT):KT:=bu 0 (qbJ K)
abbrev Fj (K:KT):KT:=(qbK K)
theorem qfx (a0:AV) (m:af):AC ae 143 [a0] m=(aK false a0).bind fun v1=>FX a0 a0 v1 (.int .i64 0) m (Fj (aF ae.P f143.results.toList)):=
(bh ae 143 [a0] m (fn:=f143) (c:=aC f143) qhR rfl).trans (by kernel_rfl)
theorem Qt (x0 x5 x6 x7:AV) (m:af) (K:KT):FX x0 x5 x6 x7 m K=(ag .other .lss x7 x6).bind fun v1=>aw v1 ((aG none x5 x7).bind fun v2=>(ai none m v2).bind fun v3=>(aG none x0 (.int .i64 0)).bind fun v4=>(ai none m v4).bind fun v5=>(ag .other .neq v3 v5).bind fun v6=>aw v6 (K .ret (Rz (.bool false) m)) ((ag .other .add x7 (.int .i64 1)).bind fun v7=>FX x0 x5 x6 v7 m K)) (K (.exit 0) (Rj m)):=
(b7 (bX _) _ _ _).trans (by kernel_rfl)
theorem qbM (m:af):Fj (aF ae.P f143.results.toList) (.exit 0) (Rj  m)=some ((.bool true),m):=by kernel_rfl
theorem qbL (x2:AV) (m:af):Fj (aF ae.P f143.results.toList) .ret (Rz x2 m)=some (x2,m):=by kernel_rfl
theorem T31 (a0 a1:AV) (m:af):AC ae 31 [a0,a1] m=(fR (.agg [au,au]) [(0,none,a0)]).bind fun v1=>(eR none (some 2) m v1).bind fun r2=>(AC ae 91 [r2.1,(.int .i64 0),a1] r2.2).bind fun r3=>(iD r2.1).bind fun v4=>(aS 1 v4).bind fun v5=>(ai none r3.2 v5).bind fun v6=>some (v6,r3.2):=
(bh ae 31 [a0,a1] m (fn:=f31) (c:=aC f31) qiu rfl).trans (by kernel_rfl)
def La (x0 x1 x2 x7 x8 x9 aE:AV) (m:af):St:=⟨(x0::x1::x2::aP (x7::x8::x9::aE::br (bI (bD (aP (aH [])))))),m⟩
def zX (x0 x1 x2 x7 x8 x9 aE aW:AV) (m:af) (K:KT):OM:=b8 91 (ck (lT (pU (aC f91)))) 7 (x0::x1::x2::aP (x7::x8::x9::aE::aW::br (bI (bD (aP []))))) m K
def K8 (x0 x7:AV) (m:af):St:=⟨(x0::aP (aO (x7::br (bI (bD (aY [])))))),m⟩
def Cr (x0 x1 x2 x7 x8 aL:AV) (m:af) (K:KT):OM:=b8 91 (uO (bo (Dc (c2 (c2 (aC f91)))))) 14 (x0::x1::x2::aP (x7::x8::aO (aH (aL::br (bI (bD (aO (aH [])))))))) m K
def K9 (x0 x7:AV) (m:af):St:=⟨(x0::aP (aO (x7::br (bI (bD (aY [])))))),m⟩
def RC (x6:AV) (m:af):St:=⟨(aP (aO (x6::br (bI (bD (aY (aH []))))))),m⟩
def uw (x0 x7 EU EW zz:AV) (m:af) (K:KT):OM:=b8 91 (ck (c2 (c2 (c2 (aC f91))))) 18 (x0::aP (aO (x7::br (bD (aY (aP (EU::EW::zz::bD (aY (aH []))))))))) m K
abbrev qeC (K:KT):KT:=bF 91 (c2 (c2 (c2 (aC f91)))) K
abbrev qeD (K:KT):KT:=bF 91 (bo (nr (c2 (aC f91)))) (qeC K)
abbrev qeE (K:KT):KT:=bu 0 (qeD K)
abbrev FD (K:KT):KT:=(qeE K)
abbrev qey (K:KT):KT:=bF 91 (bo (aC f91)) K
abbrev qez (K:KT):KT:=bu 4 (qey K)
abbrev th (K:KT):KT:=(qez K)
abbrev qev (K:KT):KT:=bF 91 (c2 (c2 (c2 (aC f91)))) K
abbrev qew (K:KT):KT:=bu 2 (qev K)
abbrev B8 (K:KT):KT:=(qew K)
theorem T91 (a0 a1 a2:AV) (m:af):AC ae 91 [a0,a1,a2] m=(aG none a2 (.int .i64 0)).bind fun v1=>(ai none m v1).bind fun v2=>(fR (.agg [(.int .i64 0),au,(.int .i64 0)]) [(0,none,(.int .i64 (-1))),(2,none,v2)]).bind fun v3=>(aN (some 3) (aA none m (.obj true [(.int .i64 0),au,(.int .i64 0)])).2 (.ptr (aA none m .resv).1 0) v3).bind fun m4=>(aD (AP ae) none m4 143 [a2]).bind fun r5=>(jg .not r5.1).bind fun v6=>aw v6 ((aK false a2).bind fun v7=>(iD a0).bind fun v8=>(aS 0 v8).bind fun v9=>(ai none r5.2 v9).bind fun v10=>(aG none v10 a1).bind fun v11=>(ai none r5.2 v11).bind fun v12=>(ag .other .quo v7 v12).bind fun bp=>(kU none a2 none (some bp) none).bind fun bj=>zX a0 a1 a2 (.ptr (aA none m .resv).1 0) bp bj (.bool true) (.int .i64 1) r5.2 (FD (aF ae.P f91.results.toList))) ((iD a0).bind fun bn=>(aS 1 bn).bind fun bO=>(ai none r5.2 bO).bind fun bB=>(aK false bB).bind fun fk=>uw a0 (.ptr (aA none m .resv).1 0) bB fk (.int .i64 0) r5.2 (th (aF ae.P f91.results.toList))):=
(bh ae 91 [a0,a1,a2] m (fn:=f91) (c:=aC f91) qi6 rfl).trans (by kernel_rfl)
theorem Km (x0 x1 x2 x7 x8 x9 aE aW:AV) (m:af) (K:KT):zX x0 x1 x2 x7 x8 x9 aE aW m K=(iD x0).bind fun v1=>(aS 0 v1).bind fun v2=>(ai none m v2).bind fun v3=>(aG none v3 x1).bind fun v4=>(ai none m v4).bind fun v5=>(ag .other .lss aW v5).bind fun v6=>aw v6 (aw aE ((ag .other .mul aW x8).bind fun v7=>(ag .other .add aW (.int .i64 1)).bind fun v8=>(ag .other .mul v8 x8).bind fun v9=>(kU none x2 (some v7) (some v9) none).bind fun v10=>(aD (AP ae) none m 144 [v10,x9]).bind fun jy=>(ag .other .add aW (.int .i64 1)).bind fun v12=>zX x0 x1 x2 x7 x8 x9 jy.1 v12 jy.2 K) ((ag .other .add aW (.int .i64 1)).bind fun bp=>zX x0 x1 x2 x7 x8 x9 (.bool false) bp m K)) (K (.exit 0) (La x0 x1 x2 x7 x8 x9 aE m)):=
(b7 (bX _) _ _ _).trans (by kernel_rfl)
theorem Q8 (x0 x1 x2 x7 x8 aL:AV) (m:af) (K:KT):Cr x0 x1 x2 x7 x8 aL m K=(iD x0).bind fun v1=>(aS 0 v1).bind fun v2=>(ai none m v2).bind fun v3=>(aG none v3 x1).bind fun v4=>(ai none m v4).bind fun v5=>(ag .other .lss aL v5).bind fun v6=>aw v6 ((aS 1 x7).bind fun v7=>(ai none m v7).bind fun v8=>(ag .other .add x1 (.int .i64 1)).bind fun v9=>(ag .other .mul aL x8).bind fun v10=>(ag .other .add aL (.int .i64 1)).bind fun v11=>(ag .other .mul v11 x8).bind fun v12=>(kU none x2 (some v10) (some v12) none).bind fun bp=>(AC ae 91 [x0,v9,bp] m).bind fun jG=>tZ ((ai none jG.2 v7).bind (fun v=>some (v,jG.2))=some (v8,jG.2)) ((fh none [jG.1]).bind fun bn=>(cg none false 3 none 8 jG.2 v8 bn).bind fun gV=>(aS 1 x7).bind fun bB=>(aN none gV.2 bB gV.1).bind fun m18=>(ag .other .add aL (.int .i64 1)).bind fun eU=>Cr x0 x1 x2 x7 x8 eU m18 K)) (K (.exit 2) (K8 x0 x7 m)):=
(b7 (bX _) _ _ _).trans (by kernel_rfl)
theorem Q9 (x0 x7 EU EW zz:AV) (m:af) (K:KT):uw x0 x7 EU EW zz m K=(ag .other .lss zz EW).bind fun v1=>aw v1 ((aG (some 3) EU zz).bind fun v2=>(ai (some 3) m v2).bind fun v3=>(aN (some 3) (aA none m (.obj true [(.int .i64 0),au,(.int .i64 0)])).2 (.ptr (aA none m .resv).1 0) v3).bind fun m4=>(ai (some 3) m4 x7).bind fun v5=>(ai (some 3) m4 (.ptr (aA none m .resv).1 0)).bind fun v6=>(aD (AP ae) none m4 142 [v5,v6]).bind fun r7=>aw r7.1 (K .ret (RC zz r7.2)) ((ag .other .add zz (.int .i64 1)).bind fun v8=>uw x0 x7 EU EW v8 r7.2 K)) (K (.exit 4) (K9 x0 x7 m)):=
(b7 (bX _) _ _ _).trans (by kernel_rfl)
theorem qeF (x0 x1 x2 x7 x8 x9 aE:AV) (m:af):FD (aF ae.P f91.results.toList) (.exit 0) (La x0 x1 x2 x7 x8 x9 aE m)=aw aE ((ag .other .add x1 (.int .i64 1)).bind fun v1=>(AC ae 91 [x0,v1,x9] m).bind fun r2=>some (r2.1,r2.2)) ((fR (.agg [(.int .i64 0),au,(.int .i64 0)]) [(0,none,x1)]).bind fun v3=>(aN (some 3) m x7 v3).bind fun m4=>Cr x0 x1 x2 x7 x8 (.int .i64 0) m4 (B8 (aF ae.P f91.results.toList))):=by kernel_rfl
theorem qeB (x0 x7:AV) (m:af):th (aF ae.P f91.results.toList) (.exit 4) (K9 x0 x7 m)=(iD x0).bind fun v1=>(aS 1 v1).bind fun v2=>(ai none (dG m 1) v2).bind fun v3=>(ai (some 3) (dG m 1) x7).bind fun v4=>(fh (some 3) [v4]).bind fun v5=>(cg (some m.length) false 146 (some 3) 40 (dG m 1) v3 v5).bind fun r6=>(iD x0).bind fun v7=>(aS 1 v7).bind fun v8=>(aN none r6.2 v8 r6.1).bind fun m9=>(iD x0).bind fun v10=>(aS 1 v10).bind fun v11=>(ai none m9 v11).bind fun v12=>(aK false v12).bind fun bp=>(ag .other .sub bp (.int .i64 1)).bind fun bj=>some (bj,m9):=by kernel_rfl
theorem qeA (x6:AV) (m:af):th (aF ae.P f91.results.toList) .ret (RC x6 m)=some (x6,m):=by kernel_rfl
theorem qex (x0 x7:AV) (m:af):B8 (aF ae.P f91.results.toList) (.exit 2) (K8 x0 x7 m)=(iD x0).bind fun v1=>(aS 1 v1).bind fun v2=>(ai none m v2).bind fun v3=>(aK false v3).bind fun v4=>uw x0 x7 v3 v4 (.int .i64 0) m (th (aF ae.P f91.results.toList)):=by kernel_rfl
end
end Go.Ab
