/-
  R9: the functions that class.Check reaches (the table is printed by gen35.py)
  R10: larchlaw17's main: class.Check of it.
  R11: the functions that verify.Class reaches, but class.Check (the table is printed by gen35.py)
  R12: larchlaw17's main: verify.Class of it.
  R15: larchlaw17's main: verify.Frames of its second method.
  R13: the functions that larchlaw17's works reaches, but class.Check, verify.Class and verify.Frames (the table is printed by gen35.py)
  R14: larchlaw17's works.
  C3: larchlaw17.CallBack.
  LIFT, Z: FROM A PURE CONTRACT TO A STATEMENT: a reading of the arguments stands behind the call, whatever else is spared.
  LIFT, Y: THE ARGUMENTS OF A STATEMENT, OPENED: what a reading reads is a typed value that lies there.
  LIFT, R0: how the program's structs are read out of a statement's arguments.
  LIFT, R2: values and calls, read out of a statement's arguments.
  LIFT, G: PACKAGE-LEVEL VARIABLES: what they read as lies in memory.
-/
import Derived.Test.YtgpkochbmfhmdaaGreatDoorQ10
import Derived.ChangeSame
import Derived.ChangeReads
import Derived.Below
import Derived.OpenShut
import Derived.RowKit
import Derived.ProofKit
import Derived.Test.YtgpkochbmfhmdaaGreatDoorRows
import Derived.ChangeArms
import Derived.ChangeMaps5
import Derived.KernelRfl
import Derived.Lib.LaidTab
namespace Go.Proofs.YtgpkochbmfhmdaaGreatDoor.Lift
open Go
set_option maxRecDepth 100000

/-- the functions that are run, where they call those of E -/
noncomputable def stepMA (m : Nat) (E : Env) : Env :=
  (55, runS (XF E []) m Tryz.f55 (Tryz.f55.body.get rfl) true) ::
  (98, runS (XF E []) m Tryz.f98 (Tryz.f98.body.get rfl) true) ::
  (99, runS (XF E []) m Tryz.f99 (Tryz.f99.body.get rfl) true) ::
  (115, runS (XF E []) m Tryz.f115 (Tryz.f115.body.get rfl) true) ::
  (118, runS (XF E []) m Tryz.f118 (Tryz.f118.body.get rfl) true) ::
  (119, runS (XF E []) m Tryz.f119 (Tryz.f119.body.get rfl) true) ::
  (136, runS (XF E [14, 17, 28, 38, 45, 58]) m Tryz.f136 (Tryz.f136.body.get rfl) false) ::
  (143, runS (XF E []) m Tryz.f143 (Tryz.f143.body.get rfl) true) ::
  (144, runS (XF E []) m Tryz.f144 (Tryz.f144.body.get rfl) true) ::
  (162, runS (XF E []) m Tryz.f162 (Tryz.f162.body.get rfl) true) ::
  (163, runS (XF E [17, 31, 40, 48, 60, 67, 74]) m Tryz.f163 (Tryz.f163.body.get rfl) true) ::
  (164, runS (XF E []) m Tryz.f164 (Tryz.f164.body.get rfl) true) ::
  (165, runS (XF E [24]) m Tryz.f165 (Tryz.f165.body.get rfl) true) ::
  (166, runS (XF E [12, 23]) m Tryz.f166 (Tryz.f166.body.get rfl) true) ::
  (167, runS (XF E []) m Tryz.f167 (Tryz.f167.body.get rfl) true) ::
  (168, runS (XF E []) m Tryz.f168 (Tryz.f168.body.get rfl) true) ::
  (169, runS (XF E [24]) m Tryz.f169 (Tryz.f169.body.get rfl) true) ::
  (170, runS (XF E [13, 24]) m Tryz.f170 (Tryz.f170.body.get rfl) true) ::
  (171, runS (XF E []) m Tryz.f171 (Tryz.f171.body.get rfl) false) ::
  (172, runS (XF E [32, 39, 58, 61]) m Tryz.f172 (Tryz.f172.body.get rfl) true) ::
  (173, runS (XF E [20]) m Tryz.f173 (Tryz.f173.body.get rfl) true) ::
  (184, runS (XF E []) m Tryz.f184 (Tryz.f184.body.get rfl) true) ::
  (202, runS (XF E [18]) m Tryz.f202 (Tryz.f202.body.get rfl) true) ::
  (203, runS (XF E []) m Tryz.f203 (Tryz.f203.body.get rfl) true) ::
  (204, runS (XF E []) m Tryz.f204 (Tryz.f204.body.get rfl) true) ::
  (205, runS (XF E [24]) m Tryz.f205 (Tryz.f205.body.get rfl) true) ::
  (206, runS (XF E [44]) m Tryz.f206 (Tryz.f206.body.get rfl) true) ::
  (207, runS (XF E []) m Tryz.f207 (Tryz.f207.body.get rfl) true) ::
  (214, runS (XF E []) m Tryz.f214 (Tryz.f214.body.get rfl) true) ::
  (243, runS (XF E []) m Tryz.f243 (Tryz.f243.body.get rfl) true) ::
  (244, runS (XF E [24]) m Tryz.f244 (Tryz.f244.body.get rfl) true) ::
  (245, runS (XF E [23, 31]) m Tryz.f245 (Tryz.f245.body.get rfl) true) ::
  (246, runS (XF E [24]) m Tryz.f246 (Tryz.f246.body.get rfl) true) ::
  (247, runS (XF E []) m Tryz.f247 (Tryz.f247.body.get rfl) false) ::
  (248, runS (XF E [36]) m Tryz.f248 (Tryz.f248.body.get rfl) true) ::
  baseF
theorem ok_stepMA (m : Nat) {E : Env} (ok : OkX Tryz.prog (XE E)) : OkX Tryz.prog (XE (stepMA m E)) := by
  unfold stepMA
  simp only [XF_eq]
  have h0 := ok_baseF
  have h1 := h0.add (sound_runS (B := [36]) (ok.b [36]) m true Tryz.func248 rfl rfl)
  have h2 := h1.add (sound_runS (B := []) (ok.b []) m false Tryz.func247 rfl rfl)
  have h3 := h2.add (sound_runS (B := [24]) (ok.b [24]) m true Tryz.func246 rfl rfl)
  have h4 := h3.add (sound_runS (B := [23, 31]) (ok.b [23, 31]) m true Tryz.func245 rfl rfl)
  have h5 := h4.add (sound_runS (B := [24]) (ok.b [24]) m true Tryz.func244 rfl rfl)
  have h6 := h5.add (sound_runS (B := []) (ok.b []) m true Tryz.func243 rfl rfl)
  have h7 := h6.add (sound_runS (B := []) (ok.b []) m true Tryz.func214 rfl rfl)
  have h8 := h7.add (sound_runS (B := []) (ok.b []) m true Tryz.func207 rfl rfl)
  have h9 := h8.add (sound_runS (B := [44]) (ok.b [44]) m true Tryz.func206 rfl rfl)
  have h10 := h9.add (sound_runS (B := [24]) (ok.b [24]) m true Tryz.func205 rfl rfl)
  have h11 := h10.add (sound_runS (B := []) (ok.b []) m true Tryz.func204 rfl rfl)
  have h12 := h11.add (sound_runS (B := []) (ok.b []) m true Tryz.func203 rfl rfl)
  have h13 := h12.add (sound_runS (B := [18]) (ok.b [18]) m true Tryz.func202 rfl rfl)
  have h14 := h13.add (sound_runS (B := []) (ok.b []) m true Tryz.func184 rfl rfl)
  have h15 := h14.add (sound_runS (B := [20]) (ok.b [20]) m true Tryz.func173 rfl rfl)
  have h16 := h15.add (sound_runS (B := [32, 39, 58, 61]) (ok.b [32, 39, 58, 61]) m true Tryz.func172 rfl rfl)
  have h17 := h16.add (sound_runS (B := []) (ok.b []) m false Tryz.func171 rfl rfl)
  have h18 := h17.add (sound_runS (B := [13, 24]) (ok.b [13, 24]) m true Tryz.func170 rfl rfl)
  have h19 := h18.add (sound_runS (B := [24]) (ok.b [24]) m true Tryz.func169 rfl rfl)
  have h20 := h19.add (sound_runS (B := []) (ok.b []) m true Tryz.func168 rfl rfl)
  have h21 := h20.add (sound_runS (B := []) (ok.b []) m true Tryz.func167 rfl rfl)
  have h22 := h21.add (sound_runS (B := [12, 23]) (ok.b [12, 23]) m true Tryz.func166 rfl rfl)
  have h23 := h22.add (sound_runS (B := [24]) (ok.b [24]) m true Tryz.func165 rfl rfl)
  have h24 := h23.add (sound_runS (B := []) (ok.b []) m true Tryz.func164 rfl rfl)
  have h25 := h24.add (sound_runS (B := [17, 31, 40, 48, 60, 67, 74]) (ok.b [17, 31, 40, 48, 60, 67, 74]) m true Tryz.func163 rfl rfl)
  have h26 := h25.add (sound_runS (B := []) (ok.b []) m true Tryz.func162 rfl rfl)
  have h27 := h26.add (sound_runS (B := []) (ok.b []) m true Tryz.func144 rfl rfl)
  have h28 := h27.add (sound_runS (B := []) (ok.b []) m true Tryz.func143 rfl rfl)
  have h29 := h28.add (sound_runS (B := [14, 17, 28, 38, 45, 58]) (ok.b [14, 17, 28, 38, 45, 58]) m false Tryz.func136 rfl rfl)
  have h30 := h29.add (sound_runS (B := []) (ok.b []) m true Tryz.func119 rfl rfl)
  have h31 := h30.add (sound_runS (B := []) (ok.b []) m true Tryz.func118 rfl rfl)
  have h32 := h31.add (sound_runS (B := []) (ok.b []) m true Tryz.func115 rfl rfl)
  have h33 := h32.add (sound_runS (B := []) (ok.b []) m true Tryz.func99 rfl rfl)
  have h34 := h33.add (sound_runS (B := []) (ok.b []) m true Tryz.func98 rfl rfl)
  have h35 := h34.add (sound_runS (B := []) (ok.b []) m true Tryz.func55 rfl rfl)
  exact h35
noncomputable def envMA (m : Nat) : Nat → Env
  | 0 => baseF
  | d + 1 => stepMA m (envMA m d)
theorem ok_envMA (m : Nat) : ∀ d, OkX Tryz.prog (XE (envMA m d))
  | 0 => ok_baseF
  | d + 1 => ok_stepMA m (ok_envMA m d)
end Go.Proofs.YtgpkochbmfhmdaaGreatDoor.Lift
namespace Go.Proofs.YtgpkochbmfhmdaaGreatDoor.Lift
open Go
set_option maxRecDepth 100000

/-- larchlaw17's main -/
def main17 : AClass := ⟨[⟨0, [], 0, 0, 0⟩, ⟨1, [77, 97, 105, 110], 0, 0, 0⟩, ⟨7, [], 0, 1, 0⟩, ⟨1, [109, 97, 105, 110], 0, 0, 0⟩, ⟨1, [40, 41, 86], 0, 0, 0⟩, ⟨1, [67, 111, 100, 101], 0, 0, 0⟩, ⟨1, [79, 98, 106, 101, 99, 116], 0, 0, 0⟩, ⟨7, [], 0, 6, 0⟩, ⟨1, [40, 74, 73, 41, 86], 0, 0, 0⟩], [77, 97, 105, 110], [79, 98, 106, 101, 99, 116], [], [⟨8, [109, 97, 105, 110], [40, 41, 86], ⟨0, 0, [177], [], []⟩⟩, ⟨8, [109, 97, 105, 110], [40, 74, 73, 41, 86], ⟨0, 4, [0, 177], [], []⟩⟩]⟩
theorem run_check17 : comesTo (.int .i64 0) (runK (XF (envMA 400 30) []) 400 Tryz.f115 (Tryz.f115.body.get rfl) [encClass main17] []) = true := by kernel_rfl
theorem p_check17 : SoundP Tryz.prog gl 115 (atV [encClass main17] (.int .i64 0)) := soundP_at [] (ok_envMA 400 30) 400 Tryz.func115 rfl rfl rfl run_check17
noncomputable def baseMB : Env := (115, liftS 9 (atV [encClass main17] (.int .i64 0))) :: baseF
theorem ok_baseMB : OkX Tryz.prog (XE baseMB) := ok_baseF.addP p_check17
end Go.Proofs.YtgpkochbmfhmdaaGreatDoor.Lift
namespace Go.Proofs.YtgpkochbmfhmdaaGreatDoor.Lift
open Go
set_option maxRecDepth 100000

/-- the functions that are run, where they call those of E -/
noncomputable def stepMB (m : Nat) (E : Env) : Env :=
  (28, runS (XF E []) m Tryz.f28 (Tryz.f28.body.get rfl) false) ::
  (29, runS (XF E []) m Tryz.f29 (Tryz.f29.body.get rfl) true) ::
  (55, runS (XF E []) m Tryz.f55 (Tryz.f55.body.get rfl) true) ::
  (56, runS (XF E []) m Tryz.f56 (Tryz.f56.body.get rfl) false) ::
  (58, runS (XF E []) m Tryz.f58 (Tryz.f58.body.get rfl) false) ::
  (59, runS (XF E []) m Tryz.f59 (Tryz.f59.body.get rfl) false) ::
  (68, orS (sCloneR 2) (runS (XF E []) m Tryz.f68 (Tryz.f68.body.get rfl) false)) ::
  (72, runS (XF E []) m Tryz.f72 (Tryz.f72.body.get rfl) false) ::
  (73, runS (XF E []) m Tryz.f73 (Tryz.f73.body.get rfl) false) ::
  (79, runS (XF E []) m Tryz.f79 (Tryz.f79.body.get rfl) false) ::
  (92, runS (XF E []) m Tryz.f92 (Tryz.f92.body.get rfl) true) ::
  (93, runS (XF E []) m Tryz.f93 (Tryz.f93.body.get rfl) false) ::
  (98, runS (XF E []) m Tryz.f98 (Tryz.f98.body.get rfl) true) ::
  (99, runS (XF E []) m Tryz.f99 (Tryz.f99.body.get rfl) true) ::
  (100, runS (XF E []) m Tryz.f100 (Tryz.f100.body.get rfl) true) ::
  (101, runS (XF E []) m Tryz.f101 (Tryz.f101.body.get rfl) true) ::
  (102, runS (XF E []) m Tryz.f102 (Tryz.f102.body.get rfl) true) ::
  (103, runS (XF E []) m Tryz.f103 (Tryz.f103.body.get rfl) true) ::
  (104, runS (XF E []) m Tryz.f104 (Tryz.f104.body.get rfl) true) ::
  (111, runS (XF E []) m Tryz.f111 (Tryz.f111.body.get rfl) true) ::
  (112, runS (XF E []) m Tryz.f112 (Tryz.f112.body.get rfl) false) ::
  (116, runS (XF E []) m Tryz.f116 (Tryz.f116.body.get rfl) true) ::
  (117, runS (XF E []) m Tryz.f117 (Tryz.f117.body.get rfl) false) ::
  (118, runS (XF E []) m Tryz.f118 (Tryz.f118.body.get rfl) true) ::
  (119, runS (XF E []) m Tryz.f119 (Tryz.f119.body.get rfl) true) ::
  (120, runS (XF E []) m Tryz.f120 (Tryz.f120.body.get rfl) true) ::
  (126, runS (XF E []) m Tryz.f126 (Tryz.f126.body.get rfl) true) ::
  (128, runS (XF E []) m Tryz.f128 (Tryz.f128.body.get rfl) false) ::
  (129, runS (XF E [64]) m Tryz.f129 (Tryz.f129.body.get rfl) false) ::
  (130, runS (XF E []) m Tryz.f130 (Tryz.f130.body.get rfl) true) ::
  (131, runS (XF E []) m Tryz.f131 (Tryz.f131.body.get rfl) false) ::
  (132, runS (XF E [3]) m Tryz.f132 (Tryz.f132.body.get rfl) true) ::
  (137, runS (XF E []) m Tryz.f137 (Tryz.f137.body.get rfl) false) ::
  (138, runS (XF E []) m Tryz.f138 (Tryz.f138.body.get rfl) true) ::
  (139, runS (XF E []) m Tryz.f139 (Tryz.f139.body.get rfl) false) ::
  (140, runS (XF E []) m Tryz.f140 (Tryz.f140.body.get rfl) true) ::
  (141, runS (XF E []) m Tryz.f141 (Tryz.f141.body.get rfl) false) ::
  (142, runS (XF E []) m Tryz.f142 (Tryz.f142.body.get rfl) true) ::
  (143, runS (XF E []) m Tryz.f143 (Tryz.f143.body.get rfl) true) ::
  (144, runS (XF E []) m Tryz.f144 (Tryz.f144.body.get rfl) true) ::
  (149, runS (XF E []) m Tryz.f149 (Tryz.f149.body.get rfl) true) ::
  (150, runS (XF E []) m Tryz.f150 (Tryz.f150.body.get rfl) true) ::
  (151, runS (XF E []) m Tryz.f151 (Tryz.f151.body.get rfl) true) ::
  (152, runS (XF E []) m Tryz.f152 (Tryz.f152.body.get rfl) true) ::
  (153, runS (XF E []) m Tryz.f153 (Tryz.f153.body.get rfl) false) ::
  (154, runS (XF E []) m Tryz.f154 (Tryz.f154.body.get rfl) true) ::
  (155, runS (XF E []) m Tryz.f155 (Tryz.f155.body.get rfl) true) ::
  (156, runS (XF E []) m Tryz.f156 (Tryz.f156.body.get rfl) false) ::
  (157, runS (XF E []) m Tryz.f157 (Tryz.f157.body.get rfl) true) ::
  (158, runS (XF E []) m Tryz.f158 (Tryz.f158.body.get rfl) true) ::
  (176, runS (XF E []) m Tryz.f176 (Tryz.f176.body.get rfl) true) ::
  (177, runS (XF E []) m Tryz.f177 (Tryz.f177.body.get rfl) true) ::
  (178, runS (XF E []) m Tryz.f178 (Tryz.f178.body.get rfl) true) ::
  (179, runS (XF E []) m Tryz.f179 (Tryz.f179.body.get rfl) true) ::
  (180, runS (XF E [7, 11, 21, 25, 32]) m Tryz.f180 (Tryz.f180.body.get rfl) true) ::
  (181, runS (XF E []) m Tryz.f181 (Tryz.f181.body.get rfl) true) ::
  (182, runS (XF E []) m Tryz.f182 (Tryz.f182.body.get rfl) false) ::
  (183, runS (XF E []) m Tryz.f183 (Tryz.f183.body.get rfl) true) ::
  (184, runS (XF E []) m Tryz.f184 (Tryz.f184.body.get rfl) true) ::
  (187, runS (XF E []) m Tryz.f187 (Tryz.f187.body.get rfl) true) ::
  (188, runS (XF E []) m Tryz.f188 (Tryz.f188.body.get rfl) false) ::
  (189, runS (XF E []) m Tryz.f189 (Tryz.f189.body.get rfl) true) ::
  (190, runS (XF E []) m Tryz.f190 (Tryz.f190.body.get rfl) true) ::
  (191, runS (XF E []) m Tryz.f191 (Tryz.f191.body.get rfl) true) ::
  (192, runS (XF E []) m Tryz.f192 (Tryz.f192.body.get rfl) true) ::
  (193, runS (XF E []) m Tryz.f193 (Tryz.f193.body.get rfl) true) ::
  (194, runS (XF E [26, 36, 45, 58, 69, 103, 115, 126, 138, 147, 153, 158, 166, 176]) m Tryz.f194 (Tryz.f194.body.get rfl) true) ::
  (195, runS (XF E [41]) m Tryz.f195 (Tryz.f195.body.get rfl) true) ::
  (196, runS (XF E [56, 64, 71, 102, 109, 126, 132, 149, 155, 166, 180]) m Tryz.f196 (Tryz.f196.body.get rfl) true) ::
  (197, runS (XF E []) m Tryz.f197 (Tryz.f197.body.get rfl) true) ::
  (209, runS (XF E []) m Tryz.f209 (Tryz.f209.body.get rfl) true) ::
  (210, runS (XF E []) m Tryz.f210 (Tryz.f210.body.get rfl) true) ::
  (211, runS (XF E []) m Tryz.f211 (Tryz.f211.body.get rfl) true) ::
  (212, runS (XF E []) m Tryz.f212 (Tryz.f212.body.get rfl) true) ::
  (213, runS (XF E []) m Tryz.f213 (Tryz.f213.body.get rfl) true) ::
  (214, runS (XF E []) m Tryz.f214 (Tryz.f214.body.get rfl) true) ::
  (216, runS (XF E []) m Tryz.f216 (Tryz.f216.body.get rfl) true) ::
  (218, runS (XF E []) m Tryz.f218 (Tryz.f218.body.get rfl) true) ::
  (219, runS (XF E [14]) m Tryz.f219 (Tryz.f219.body.get rfl) true) ::
  (220, runS (XF E []) m Tryz.f220 (Tryz.f220.body.get rfl) false) ::
  (221, runS (XF E []) m Tryz.f221 (Tryz.f221.body.get rfl) true) ::
  (222, runS (XF E []) m Tryz.f222 (Tryz.f222.body.get rfl) false) ::
  (223, runS (XF E []) m Tryz.f223 (Tryz.f223.body.get rfl) true) ::
  (224, runS (XF E []) m Tryz.f224 (Tryz.f224.body.get rfl) true) ::
  (225, runS (XF E []) m Tryz.f225 (Tryz.f225.body.get rfl) false) ::
  (226, runS (XF E []) m Tryz.f226 (Tryz.f226.body.get rfl) true) ::
  (227, runS (XF E []) m Tryz.f227 (Tryz.f227.body.get rfl) true) ::
  (228, runS (XF E []) m Tryz.f228 (Tryz.f228.body.get rfl) true) ::
  (229, runS (XF E []) m Tryz.f229 (Tryz.f229.body.get rfl) true) ::
  (230, runS (XF E []) m Tryz.f230 (Tryz.f230.body.get rfl) true) ::
  (231, runS (XF E [8]) m Tryz.f231 (Tryz.f231.body.get rfl) true) ::
  (232, runS (XF E []) m Tryz.f232 (Tryz.f232.body.get rfl) false) ::
  (233, runS (XF E []) m Tryz.f233 (Tryz.f233.body.get rfl) false) ::
  (234, runS (XF E []) m Tryz.f234 (Tryz.f234.body.get rfl) false) ::
  (235, runS (XF E []) m Tryz.f235 (Tryz.f235.body.get rfl) true) ::
  (236, runS (XF E []) m Tryz.f236 (Tryz.f236.body.get rfl) true) ::
  (237, runS (XF E []) m Tryz.f237 (Tryz.f237.body.get rfl) false) ::
  (238, runS (XF E []) m Tryz.f238 (Tryz.f238.body.get rfl) false) ::
  (239, runS (XF E []) m Tryz.f239 (Tryz.f239.body.get rfl) true) ::
  (249, runS (XF E []) m Tryz.f249 (Tryz.f249.body.get rfl) true) ::
  (250, runS (XF E []) m Tryz.f250 (Tryz.f250.body.get rfl) false) ::
  (251, runS (XF E []) m Tryz.f251 (Tryz.f251.body.get rfl) true) ::
  (252, runS (XF E []) m Tryz.f252 (Tryz.f252.body.get rfl) true) ::
  (253, runS (XF E []) m Tryz.f253 (Tryz.f253.body.get rfl) true) ::
  (254, runS (XF E []) m Tryz.f254 (Tryz.f254.body.get rfl) true) ::
  baseMB
theorem ok_stepMB (m : Nat) {E : Env} (ok : OkX Tryz.prog (XE E)) : OkX Tryz.prog (XE (stepMB m E)) := by
  unfold stepMB
  simp only [XF_eq]
  have h0 := ok_baseMB
  have h1 := h0.add (sound_runS (B := []) (ok.b []) m true Tryz.func254 rfl rfl)
  have h2 := h1.add (sound_runS (B := []) (ok.b []) m true Tryz.func253 rfl rfl)
  have h3 := h2.add (sound_runS (B := []) (ok.b []) m true Tryz.func252 rfl rfl)
  have h4 := h3.add (sound_runS (B := []) (ok.b []) m true Tryz.func251 rfl rfl)
  have h5 := h4.add (sound_runS (B := []) (ok.b []) m false Tryz.func250 rfl rfl)
  have h6 := h5.add (sound_runS (B := []) (ok.b []) m true Tryz.func249 rfl rfl)
  have h7 := h6.add (sound_runS (B := []) (ok.b []) m true Tryz.func239 rfl rfl)
  have h8 := h7.add (sound_runS (B := []) (ok.b []) m false Tryz.func238 rfl rfl)
  have h9 := h8.add (sound_runS (B := []) (ok.b []) m false Tryz.func237 rfl rfl)
  have h10 := h9.add (sound_runS (B := []) (ok.b []) m true Tryz.func236 rfl rfl)
  have h11 := h10.add (sound_runS (B := []) (ok.b []) m true Tryz.func235 rfl rfl)
  have h12 := h11.add (sound_runS (B := []) (ok.b []) m false Tryz.func234 rfl rfl)
  have h13 := h12.add (sound_runS (B := []) (ok.b []) m false Tryz.func233 rfl rfl)
  have h14 := h13.add (sound_runS (B := []) (ok.b []) m false Tryz.func232 rfl rfl)
  have h15 := h14.add (sound_runS (B := [8]) (ok.b [8]) m true Tryz.func231 rfl rfl)
  have h16 := h15.add (sound_runS (B := []) (ok.b []) m true Tryz.func230 rfl rfl)
  have h17 := h16.add (sound_runS (B := []) (ok.b []) m true Tryz.func229 rfl rfl)
  have h18 := h17.add (sound_runS (B := []) (ok.b []) m true Tryz.func228 rfl rfl)
  have h19 := h18.add (sound_runS (B := []) (ok.b []) m true Tryz.func227 rfl rfl)
  have h20 := h19.add (sound_runS (B := []) (ok.b []) m true Tryz.func226 rfl rfl)
  have h21 := h20.add (sound_runS (B := []) (ok.b []) m false Tryz.func225 rfl rfl)
  have h22 := h21.add (sound_runS (B := []) (ok.b []) m true Tryz.func224 rfl rfl)
  have h23 := h22.add (sound_runS (B := []) (ok.b []) m true Tryz.func223 rfl rfl)
  have h24 := h23.add (sound_runS (B := []) (ok.b []) m false Tryz.func222 rfl rfl)
  have h25 := h24.add (sound_runS (B := []) (ok.b []) m true Tryz.func221 rfl rfl)
  have h26 := h25.add (sound_runS (B := []) (ok.b []) m false Tryz.func220 rfl rfl)
  have h27 := h26.add (sound_runS (B := [14]) (ok.b [14]) m true Tryz.func219 rfl rfl)
  have h28 := h27.add (sound_runS (B := []) (ok.b []) m true Tryz.func218 rfl rfl)
  have h29 := h28.add (sound_runS (B := []) (ok.b []) m true Tryz.func216 rfl rfl)
  have h30 := h29.add (sound_runS (B := []) (ok.b []) m true Tryz.func214 rfl rfl)
  have h31 := h30.add (sound_runS (B := []) (ok.b []) m true Tryz.func213 rfl rfl)
  have h32 := h31.add (sound_runS (B := []) (ok.b []) m true Tryz.func212 rfl rfl)
  have h33 := h32.add (sound_runS (B := []) (ok.b []) m true Tryz.func211 rfl rfl)
  have h34 := h33.add (sound_runS (B := []) (ok.b []) m true Tryz.func210 rfl rfl)
  have h35 := h34.add (sound_runS (B := []) (ok.b []) m true Tryz.func209 rfl rfl)
  have h36 := h35.add (sound_runS (B := []) (ok.b []) m true Tryz.func197 rfl rfl)
  have h37 := h36.add (sound_runS (B := [56, 64, 71, 102, 109, 126, 132, 149, 155, 166, 180]) (ok.b [56, 64, 71, 102, 109, 126, 132, 149, 155, 166, 180]) m true Tryz.func196 rfl rfl)
  have h38 := h37.add (sound_runS (B := [41]) (ok.b [41]) m true Tryz.func195 rfl rfl)
  have h39 := h38.add (sound_runS (B := [26, 36, 45, 58, 69, 103, 115, 126, 138, 147, 153, 158, 166, 176]) (ok.b [26, 36, 45, 58, 69, 103, 115, 126, 138, 147, 153, 158, 166, 176]) m true Tryz.func194 rfl rfl)
  have h40 := h39.add (sound_runS (B := []) (ok.b []) m true Tryz.func193 rfl rfl)
  have h41 := h40.add (sound_runS (B := []) (ok.b []) m true Tryz.func192 rfl rfl)
  have h42 := h41.add (sound_runS (B := []) (ok.b []) m true Tryz.func191 rfl rfl)
  have h43 := h42.add (sound_runS (B := []) (ok.b []) m true Tryz.func190 rfl rfl)
  have h44 := h43.add (sound_runS (B := []) (ok.b []) m true Tryz.func189 rfl rfl)
  have h45 := h44.add (sound_runS (B := []) (ok.b []) m false Tryz.func188 rfl rfl)
  have h46 := h45.add (sound_runS (B := []) (ok.b []) m true Tryz.func187 rfl rfl)
  have h47 := h46.add (sound_runS (B := []) (ok.b []) m true Tryz.func184 rfl rfl)
  have h48 := h47.add (sound_runS (B := []) (ok.b []) m true Tryz.func183 rfl rfl)
  have h49 := h48.add (sound_runS (B := []) (ok.b []) m false Tryz.func182 rfl rfl)
  have h50 := h49.add (sound_runS (B := []) (ok.b []) m true Tryz.func181 rfl rfl)
  have h51 := h50.add (sound_runS (B := [7, 11, 21, 25, 32]) (ok.b [7, 11, 21, 25, 32]) m true Tryz.func180 rfl rfl)
  have h52 := h51.add (sound_runS (B := []) (ok.b []) m true Tryz.func179 rfl rfl)
  have h53 := h52.add (sound_runS (B := []) (ok.b []) m true Tryz.func178 rfl rfl)
  have h54 := h53.add (sound_runS (B := []) (ok.b []) m true Tryz.func177 rfl rfl)
  have h55 := h54.add (sound_runS (B := []) (ok.b []) m true Tryz.func176 rfl rfl)
  have h56 := h55.add (sound_runS (B := []) (ok.b []) m true Tryz.func158 rfl rfl)
  have h57 := h56.add (sound_runS (B := []) (ok.b []) m true Tryz.func157 rfl rfl)
  have h58 := h57.add (sound_runS (B := []) (ok.b []) m false Tryz.func156 rfl rfl)
  have h59 := h58.add (sound_runS (B := []) (ok.b []) m true Tryz.func155 rfl rfl)
  have h60 := h59.add (sound_runS (B := []) (ok.b []) m true Tryz.func154 rfl rfl)
  have h61 := h60.add (sound_runS (B := []) (ok.b []) m false Tryz.func153 rfl rfl)
  have h62 := h61.add (sound_runS (B := []) (ok.b []) m true Tryz.func152 rfl rfl)
  have h63 := h62.add (sound_runS (B := []) (ok.b []) m true Tryz.func151 rfl rfl)
  have h64 := h63.add (sound_runS (B := []) (ok.b []) m true Tryz.func150 rfl rfl)
  have h65 := h64.add (sound_runS (B := []) (ok.b []) m true Tryz.func149 rfl rfl)
  have h66 := h65.add (sound_runS (B := []) (ok.b []) m true Tryz.func144 rfl rfl)
  have h67 := h66.add (sound_runS (B := []) (ok.b []) m true Tryz.func143 rfl rfl)
  have h68 := h67.add (sound_runS (B := []) (ok.b []) m true Tryz.func142 rfl rfl)
  have h69 := h68.add (sound_runS (B := []) (ok.b []) m false Tryz.func141 rfl rfl)
  have h70 := h69.add (sound_runS (B := []) (ok.b []) m true Tryz.func140 rfl rfl)
  have h71 := h70.add (sound_runS (B := []) (ok.b []) m false Tryz.func139 rfl rfl)
  have h72 := h71.add (sound_runS (B := []) (ok.b []) m true Tryz.func138 rfl rfl)
  have h73 := h72.add (sound_runS (B := []) (ok.b []) m false Tryz.func137 rfl rfl)
  have h74 := h73.add (sound_runS (B := [3]) (ok.b [3]) m true Tryz.func132 rfl rfl)
  have h75 := h74.add (sound_runS (B := []) (ok.b []) m false Tryz.func131 rfl rfl)
  have h76 := h75.add (sound_runS (B := []) (ok.b []) m true Tryz.func130 rfl rfl)
  have h77 := h76.add (sound_runS (B := [64]) (ok.b [64]) m false Tryz.func129 rfl rfl)
  have h78 := h77.add (sound_runS (B := []) (ok.b []) m false Tryz.func128 rfl rfl)
  have h79 := h78.add (sound_runS (B := []) (ok.b []) m true Tryz.func126 rfl rfl)
  have h80 := h79.add (sound_runS (B := []) (ok.b []) m true Tryz.func120 rfl rfl)
  have h81 := h80.add (sound_runS (B := []) (ok.b []) m true Tryz.func119 rfl rfl)
  have h82 := h81.add (sound_runS (B := []) (ok.b []) m true Tryz.func118 rfl rfl)
  have h83 := h82.add (sound_runS (B := []) (ok.b []) m false Tryz.func117 rfl rfl)
  have h84 := h83.add (sound_runS (B := []) (ok.b []) m true Tryz.func116 rfl rfl)
  have h85 := h84.add (sound_runS (B := []) (ok.b []) m false Tryz.func112 rfl rfl)
  have h86 := h85.add (sound_runS (B := []) (ok.b []) m true Tryz.func111 rfl rfl)
  have h87 := h86.add (sound_runS (B := []) (ok.b []) m true Tryz.func104 rfl rfl)
  have h88 := h87.add (sound_runS (B := []) (ok.b []) m true Tryz.func103 rfl rfl)
  have h89 := h88.add (sound_runS (B := []) (ok.b []) m true Tryz.func102 rfl rfl)
  have h90 := h89.add (sound_runS (B := []) (ok.b []) m true Tryz.func101 rfl rfl)
  have h91 := h90.add (sound_runS (B := []) (ok.b []) m true Tryz.func100 rfl rfl)
  have h92 := h91.add (sound_runS (B := []) (ok.b []) m true Tryz.func99 rfl rfl)
  have h93 := h92.add (sound_runS (B := []) (ok.b []) m true Tryz.func98 rfl rfl)
  have h94 := h93.add (sound_runS (B := []) (ok.b []) m false Tryz.func93 rfl rfl)
  have h95 := h94.add (sound_runS (B := []) (ok.b []) m true Tryz.func92 rfl rfl)
  have h96 := h95.add (sound_runS (B := []) (ok.b []) m false Tryz.func79 rfl rfl)
  have h97 := h96.add (sound_runS (B := []) (ok.b []) m false Tryz.func73 rfl rfl)
  have h98 := h97.add (sound_runS (B := []) (ok.b []) m false Tryz.func72 rfl rfl)
  have h99 := h98.add (sound_orS f_CloneT0 (sound_runS (B := []) (ok.b []) m false Tryz.func68 rfl rfl))
  have h100 := h99.add (sound_runS (B := []) (ok.b []) m false Tryz.func59 rfl rfl)
  have h101 := h100.add (sound_runS (B := []) (ok.b []) m false Tryz.func58 rfl rfl)
  have h102 := h101.add (sound_runS (B := []) (ok.b []) m false Tryz.func56 rfl rfl)
  have h103 := h102.add (sound_runS (B := []) (ok.b []) m true Tryz.func55 rfl rfl)
  have h104 := h103.add (sound_runS (B := []) (ok.b []) m true Tryz.func29 rfl rfl)
  have h105 := h104.add (sound_runS (B := []) (ok.b []) m false Tryz.func28 rfl rfl)
  exact h105
noncomputable def envMB (m : Nat) : Nat → Env
  | 0 => baseMB
  | d + 1 => stepMB m (envMB m d)
theorem ok_envMB (m : Nat) : ∀ d, OkX Tryz.prog (XE (envMB m d))
  | 0 => ok_baseMB
  | d + 1 => ok_stepMB m (ok_envMB m d)
end Go.Proofs.YtgpkochbmfhmdaaGreatDoor.Lift
namespace Go.Proofs.YtgpkochbmfhmdaaGreatDoor.Lift
open Go
set_option maxRecDepth 100000

theorem run_verify17 : comesTo (.tup [.int .i64 2, .int .i64 0]) (runK (XF (envMB 400 30) []) 400 Tryz.f92 (Tryz.f92.body.get rfl) [encL encClass (houseC ++ [main17]), encClass main17] []) = true := by kernel_rfl
theorem p_verify17 : SoundP Tryz.prog gl 92 (atV [encL encClass (houseC ++ [main17]), encClass main17] (.tup [.int .i64 2, .int .i64 0])) := soundP_at [] (ok_envMB 400 30) 400 Tryz.func92 rfl rfl rfl run_verify17
noncomputable def baseMC : Env := (92, liftS 9 (atV [encL encClass (houseC ++ [main17]), encClass main17] (.tup [.int .i64 2, .int .i64 0]))) :: baseMB
theorem ok_baseMC : OkX Tryz.prog (XE baseMC) := ok_baseMB.addP p_verify17
/-- does a run come to a value, read out of the store? -/
def comesToP (v : AV) : Option (AV × Sto) → Bool
  | some (r, st) => (match peek st 9 r with | some r' => eqA r' v | none => false)
  | none => false
theorem soundP_atP {E : Env} (B : List Nat) (ok : OkX Tryz.prog (XE E)) (m : Nat) {f : Nat} {fn : Func} (hf : Tryz.prog.funcs[f]? = some fn) (hb : fn.body.isSome = true) (hn : (fn.name == "runtime.NumGoroutine") = false) {args : List AV} {v : AV}
    (h : comesToP v (runK (XF E B) m fn (fn.body.get hb) args []) = true) : SoundP Tryz.prog gl f (atV args v) := by
  rw [XF_eq] at h
  refine soundP_of_ev (X := XB E B) rfl hf (c := fn.body.get hb) (by simp) hn fun a r hr G0 => ?_
  simp only [atV, Option.ite_none_right_eq_some, Option.some.injEq] at hr
  obtain ⟨h1, rfl⟩ := hr
  rw [eqAL_eq h1]
  unfold runK at h
  split at h
  · rename_i e s1 h2
    split at h
    · rename_i he
      split at h
      · rename_i r0 h3
        simp only [comesToP] at h
        split at h
        · rename_i r' hp
          exact ev_weak (tidy_weak _).less (rc_ev (ok.b B) mixed m _ _ e s1 _ h2 ⟨isEnd_iff he, 9, r0, h3, by rw [hp, eqA_eq h]⟩)
        · cases h
      · cases h
    · cases h
  · cases h
end Go.Proofs.YtgpkochbmfhmdaaGreatDoor.Lift
namespace Go.Proofs.YtgpkochbmfhmdaaGreatDoor.Lift
open Go
set_option maxRecDepth 100000

/-- the frames of larchlaw17's second method -/
def frames17 : List AFrame := [⟨[⟨2, []⟩, ⟨0, []⟩, ⟨1, []⟩, ⟨0, []⟩], []⟩, ⟨[⟨2, []⟩, ⟨0, []⟩, ⟨1, []⟩, ⟨0, []⟩], []⟩]
theorem run_frames17 : comesToP (.tup [encL encFrame frames17, .int .i64 0]) (runK (XF (envMB 400 30) []) 400 Tryz.f80 (Tryz.f80.body.get rfl) [encL encClass (houseC ++ [main17]), encClass main17, .int .i64 1] []) = true := by kernel_rfl
theorem p_frames17 : SoundP Tryz.prog gl 80 (atV [encL encClass (houseC ++ [main17]), encClass main17, .int .i64 1] (.tup [encL encFrame frames17, .int .i64 0])) := soundP_atP [] (ok_envMB 400 30) 400 Tryz.func80 rfl rfl run_frames17
noncomputable def baseMD : Env := (80, liftS 9 (atV [encL encClass (houseC ++ [main17]), encClass main17, .int .i64 1] (.tup [encL encFrame frames17, .int .i64 0]))) :: baseMC
theorem ok_baseMD : OkX Tryz.prog (XE baseMD) := ok_baseMC.addP p_frames17
end Go.Proofs.YtgpkochbmfhmdaaGreatDoor.Lift
namespace Go.Proofs.YtgpkochbmfhmdaaGreatDoor.Lift
open Go
set_option maxRecDepth 100000

/-- the functions that are run, where they call those of E -/
noncomputable def stepMC (m : Nat) (E : Env) : Env :=
  (7, runS (XF E []) m Tryz.f7 (Tryz.f7.body.get rfl) false) ::
  (9, runS (XF E []) m Tryz.f9 (Tryz.f9.body.get rfl) true) ::
  (12, runS (XF E []) m Tryz.f12 (Tryz.f12.body.get rfl) false) ::
  (16, runS (XF E [13, 22, 68]) m Tryz.f16 (Tryz.f16.body.get rfl) true) ::
  (21, runS (XF E []) m Tryz.f21 (Tryz.f21.body.get rfl) false) ::
  (23, runS (XF E []) m Tryz.f23 (Tryz.f23.body.get rfl) true) ::
  (24, runS (XF E []) m Tryz.f24 (Tryz.f24.body.get rfl) false) ::
  (25, runS (XF E []) m Tryz.f25 (Tryz.f25.body.get rfl) true) ::
  (26, runS (XF E []) m Tryz.f26 (Tryz.f26.body.get rfl) true) ::
  (27, runS (XF E []) m Tryz.f27 (Tryz.f27.body.get rfl) false) ::
  (28, runS (XF E []) m Tryz.f28 (Tryz.f28.body.get rfl) false) ::
  (29, runS (XF E []) m Tryz.f29 (Tryz.f29.body.get rfl) true) ::
  (30, runS (XF E []) m Tryz.f30 (Tryz.f30.body.get rfl) true) ::
  (31, runS (XF E []) m Tryz.f31 (Tryz.f31.body.get rfl) true) ::
  (32, runS (XF E []) m Tryz.f32 (Tryz.f32.body.get rfl) true) ::
  (33, runS (XF E []) m Tryz.f33 (Tryz.f33.body.get rfl) true) ::
  (36, runS (XF E []) m Tryz.f36 (Tryz.f36.body.get rfl) false) ::
  (38, runS (XF E []) m Tryz.f38 (Tryz.f38.body.get rfl) false) ::
  (40, runS (XF E []) m Tryz.f40 (Tryz.f40.body.get rfl) false) ::
  (41, runS (XF E [76]) m Tryz.f41 (Tryz.f41.body.get rfl) false) ::
  (42, runS (XF E []) m Tryz.f42 (Tryz.f42.body.get rfl) false) ::
  (43, runS (XF E []) m Tryz.f43 (Tryz.f43.body.get rfl) true) ::
  (44, runS (XF E []) m Tryz.f44 (Tryz.f44.body.get rfl) true) ::
  (46, runS (XF E []) m Tryz.f46 (Tryz.f46.body.get rfl) false) ::
  (47, runS (XF E []) m Tryz.f47 (Tryz.f47.body.get rfl) true) ::
  (48, runS (XF E []) m Tryz.f48 (Tryz.f48.body.get rfl) true) ::
  (49, runS (XF E []) m Tryz.f49 (Tryz.f49.body.get rfl) true) ::
  (50, runS (XF E []) m Tryz.f50 (Tryz.f50.body.get rfl) true) ::
  (51, runS (XF E []) m Tryz.f51 (Tryz.f51.body.get rfl) true) ::
  (52, runS (XF E []) m Tryz.f52 (Tryz.f52.body.get rfl) true) ::
  (53, runS (XF E []) m Tryz.f53 (Tryz.f53.body.get rfl) true) ::
  (54, runS (XF E []) m Tryz.f54 (Tryz.f54.body.get rfl) true) ::
  (55, runS (XF E []) m Tryz.f55 (Tryz.f55.body.get rfl) true) ::
  (56, runS (XF E []) m Tryz.f56 (Tryz.f56.body.get rfl) false) ::
  (58, runS (XF E []) m Tryz.f58 (Tryz.f58.body.get rfl) false) ::
  (59, runS (XF E []) m Tryz.f59 (Tryz.f59.body.get rfl) false) ::
  (60, runS (XF E []) m Tryz.f60 (Tryz.f60.body.get rfl) true) ::
  (61, runS (XF E []) m Tryz.f61 (Tryz.f61.body.get rfl) true) ::
  (62, runS (XF E []) m Tryz.f62 (Tryz.f62.body.get rfl) false) ::
  (63, runS (XF E []) m Tryz.f63 (Tryz.f63.body.get rfl) false) ::
  (64, runS (XF E []) m Tryz.f64 (Tryz.f64.body.get rfl) false) ::
  (65, runS (XF E []) m Tryz.f65 (Tryz.f65.body.get rfl) false) ::
  (66, runS (XF E []) m Tryz.f66 (Tryz.f66.body.get rfl) false) ::
  (67, runS (XF E []) m Tryz.f67 (Tryz.f67.body.get rfl) false) ::
  (68, orS (sCloneR 2) (runS (XF E []) m Tryz.f68 (Tryz.f68.body.get rfl) false)) ::
  (72, runS (XF E []) m Tryz.f72 (Tryz.f72.body.get rfl) false) ::
  (73, runS (XF E []) m Tryz.f73 (Tryz.f73.body.get rfl) false) ::
  (74, runS (XF E []) m Tryz.f74 (Tryz.f74.body.get rfl) true) ::
  (75, runS (XF E []) m Tryz.f75 (Tryz.f75.body.get rfl) true) ::
  (77, runS (XF E []) m Tryz.f77 (Tryz.f77.body.get rfl) false) ::
  (78, runS (XF E []) m Tryz.f78 (Tryz.f78.body.get rfl) true) ::
  (79, runS (XF E []) m Tryz.f79 (Tryz.f79.body.get rfl) false) ::
  (81, runS (XF E []) m Tryz.f81 (Tryz.f81.body.get rfl) true) ::
  (84, runS (XF E []) m Tryz.f84 (Tryz.f84.body.get rfl) true) ::
  (85, runS (XF E []) m Tryz.f85 (Tryz.f85.body.get rfl) true) ::
  (86, runS (XF E []) m Tryz.f86 (Tryz.f86.body.get rfl) true) ::
  (87, runS (XF E []) m Tryz.f87 (Tryz.f87.body.get rfl) true) ::
  (88, runS (XF E []) m Tryz.f88 (Tryz.f88.body.get rfl) true) ::
  (89, runS (XF E []) m Tryz.f89 (Tryz.f89.body.get rfl) true) ::
  (90, runS (XF E []) m Tryz.f90 (Tryz.f90.body.get rfl) true) ::
  (91, runS (XF E []) m Tryz.f91 (Tryz.f91.body.get rfl) true) ::
  (93, runS (XF E []) m Tryz.f93 (Tryz.f93.body.get rfl) false) ::
  (94, runS (XF E []) m Tryz.f94 (Tryz.f94.body.get rfl) true) ::
  (95, runS (XF E []) m Tryz.f95 (Tryz.f95.body.get rfl) true) ::
  (96, runS (XF E []) m Tryz.f96 (Tryz.f96.body.get rfl) true) ::
  (97, runS (XF E []) m Tryz.f97 (Tryz.f97.body.get rfl) true) ::
  (98, runS (XF E []) m Tryz.f98 (Tryz.f98.body.get rfl) true) ::
  (99, runS (XF E []) m Tryz.f99 (Tryz.f99.body.get rfl) true) ::
  (101, runS (XF E []) m Tryz.f101 (Tryz.f101.body.get rfl) true) ::
  (102, runS (XF E []) m Tryz.f102 (Tryz.f102.body.get rfl) true) ::
  (103, runS (XF E []) m Tryz.f103 (Tryz.f103.body.get rfl) true) ::
  (104, runS (XF E []) m Tryz.f104 (Tryz.f104.body.get rfl) true) ::
  (109, runS (XF E []) m Tryz.f109 (Tryz.f109.body.get rfl) true) ::
  (110, runS (XF E []) m Tryz.f110 (Tryz.f110.body.get rfl) true) ::
  (113, runS (XF E []) m Tryz.f113 (Tryz.f113.body.get rfl) false) ::
  (117, runS (XF E []) m Tryz.f117 (Tryz.f117.body.get rfl) false) ::
  (118, runS (XF E []) m Tryz.f118 (Tryz.f118.body.get rfl) true) ::
  (119, runS (XF E []) m Tryz.f119 (Tryz.f119.body.get rfl) true) ::
  (137, runS (XF E []) m Tryz.f137 (Tryz.f137.body.get rfl) false) ::
  (138, runS (XF E []) m Tryz.f138 (Tryz.f138.body.get rfl) true) ::
  (139, runS (XF E []) m Tryz.f139 (Tryz.f139.body.get rfl) false) ::
  (140, runS (XF E []) m Tryz.f140 (Tryz.f140.body.get rfl) true) ::
  (141, runS (XF E []) m Tryz.f141 (Tryz.f141.body.get rfl) false) ::
  (142, runS (XF E []) m Tryz.f142 (Tryz.f142.body.get rfl) true) ::
  (143, runS (XF E []) m Tryz.f143 (Tryz.f143.body.get rfl) true) ::
  (144, runS (XF E []) m Tryz.f144 (Tryz.f144.body.get rfl) true) ::
  (176, runS (XF E []) m Tryz.f176 (Tryz.f176.body.get rfl) true) ::
  (177, runS (XF E []) m Tryz.f177 (Tryz.f177.body.get rfl) true) ::
  (178, runS (XF E []) m Tryz.f178 (Tryz.f178.body.get rfl) true) ::
  (179, runS (XF E []) m Tryz.f179 (Tryz.f179.body.get rfl) true) ::
  (180, runS (XF E [7, 11, 21, 25, 32]) m Tryz.f180 (Tryz.f180.body.get rfl) true) ::
  (181, runS (XF E []) m Tryz.f181 (Tryz.f181.body.get rfl) true) ::
  (182, runS (XF E []) m Tryz.f182 (Tryz.f182.body.get rfl) false) ::
  (183, runS (XF E []) m Tryz.f183 (Tryz.f183.body.get rfl) true) ::
  (184, runS (XF E []) m Tryz.f184 (Tryz.f184.body.get rfl) true) ::
  (209, runS (XF E []) m Tryz.f209 (Tryz.f209.body.get rfl) true) ::
  (210, runS (XF E []) m Tryz.f210 (Tryz.f210.body.get rfl) true) ::
  (211, runS (XF E []) m Tryz.f211 (Tryz.f211.body.get rfl) true) ::
  (212, runS (XF E []) m Tryz.f212 (Tryz.f212.body.get rfl) true) ::
  (213, runS (XF E []) m Tryz.f213 (Tryz.f213.body.get rfl) true) ::
  (214, runS (XF E []) m Tryz.f214 (Tryz.f214.body.get rfl) true) ::
  baseMD
theorem ok_stepMC (m : Nat) {E : Env} (ok : OkX Tryz.prog (XE E)) : OkX Tryz.prog (XE (stepMC m E)) := by
  unfold stepMC
  simp only [XF_eq]
  have h0 := ok_baseMD
  have h1 := h0.add (sound_runS (B := []) (ok.b []) m true Tryz.func214 rfl rfl)
  have h2 := h1.add (sound_runS (B := []) (ok.b []) m true Tryz.func213 rfl rfl)
  have h3 := h2.add (sound_runS (B := []) (ok.b []) m true Tryz.func212 rfl rfl)
  have h4 := h3.add (sound_runS (B := []) (ok.b []) m true Tryz.func211 rfl rfl)
  have h5 := h4.add (sound_runS (B := []) (ok.b []) m true Tryz.func210 rfl rfl)
  have h6 := h5.add (sound_runS (B := []) (ok.b []) m true Tryz.func209 rfl rfl)
  have h7 := h6.add (sound_runS (B := []) (ok.b []) m true Tryz.func184 rfl rfl)
  have h8 := h7.add (sound_runS (B := []) (ok.b []) m true Tryz.func183 rfl rfl)
  have h9 := h8.add (sound_runS (B := []) (ok.b []) m false Tryz.func182 rfl rfl)
  have h10 := h9.add (sound_runS (B := []) (ok.b []) m true Tryz.func181 rfl rfl)
  have h11 := h10.add (sound_runS (B := [7, 11, 21, 25, 32]) (ok.b [7, 11, 21, 25, 32]) m true Tryz.func180 rfl rfl)
  have h12 := h11.add (sound_runS (B := []) (ok.b []) m true Tryz.func179 rfl rfl)
  have h13 := h12.add (sound_runS (B := []) (ok.b []) m true Tryz.func178 rfl rfl)
  have h14 := h13.add (sound_runS (B := []) (ok.b []) m true Tryz.func177 rfl rfl)
  have h15 := h14.add (sound_runS (B := []) (ok.b []) m true Tryz.func176 rfl rfl)
  have h16 := h15.add (sound_runS (B := []) (ok.b []) m true Tryz.func144 rfl rfl)
  have h17 := h16.add (sound_runS (B := []) (ok.b []) m true Tryz.func143 rfl rfl)
  have h18 := h17.add (sound_runS (B := []) (ok.b []) m true Tryz.func142 rfl rfl)
  have h19 := h18.add (sound_runS (B := []) (ok.b []) m false Tryz.func141 rfl rfl)
  have h20 := h19.add (sound_runS (B := []) (ok.b []) m true Tryz.func140 rfl rfl)
  have h21 := h20.add (sound_runS (B := []) (ok.b []) m false Tryz.func139 rfl rfl)
  have h22 := h21.add (sound_runS (B := []) (ok.b []) m true Tryz.func138 rfl rfl)
  have h23 := h22.add (sound_runS (B := []) (ok.b []) m false Tryz.func137 rfl rfl)
  have h24 := h23.add (sound_runS (B := []) (ok.b []) m true Tryz.func119 rfl rfl)
  have h25 := h24.add (sound_runS (B := []) (ok.b []) m true Tryz.func118 rfl rfl)
  have h26 := h25.add (sound_runS (B := []) (ok.b []) m false Tryz.func117 rfl rfl)
  have h27 := h26.add (sound_runS (B := []) (ok.b []) m false Tryz.func113 rfl rfl)
  have h28 := h27.add (sound_runS (B := []) (ok.b []) m true Tryz.func110 rfl rfl)
  have h29 := h28.add (sound_runS (B := []) (ok.b []) m true Tryz.func109 rfl rfl)
  have h30 := h29.add (sound_runS (B := []) (ok.b []) m true Tryz.func104 rfl rfl)
  have h31 := h30.add (sound_runS (B := []) (ok.b []) m true Tryz.func103 rfl rfl)
  have h32 := h31.add (sound_runS (B := []) (ok.b []) m true Tryz.func102 rfl rfl)
  have h33 := h32.add (sound_runS (B := []) (ok.b []) m true Tryz.func101 rfl rfl)
  have h34 := h33.add (sound_runS (B := []) (ok.b []) m true Tryz.func99 rfl rfl)
  have h35 := h34.add (sound_runS (B := []) (ok.b []) m true Tryz.func98 rfl rfl)
  have h36 := h35.add (sound_runS (B := []) (ok.b []) m true Tryz.func97 rfl rfl)
  have h37 := h36.add (sound_runS (B := []) (ok.b []) m true Tryz.func96 rfl rfl)
  have h38 := h37.add (sound_runS (B := []) (ok.b []) m true Tryz.func95 rfl rfl)
  have h39 := h38.add (sound_runS (B := []) (ok.b []) m true Tryz.func94 rfl rfl)
  have h40 := h39.add (sound_runS (B := []) (ok.b []) m false Tryz.func93 rfl rfl)
  have h41 := h40.add (sound_runS (B := []) (ok.b []) m true Tryz.func91 rfl rfl)
  have h42 := h41.add (sound_runS (B := []) (ok.b []) m true Tryz.func90 rfl rfl)
  have h43 := h42.add (sound_runS (B := []) (ok.b []) m true Tryz.func89 rfl rfl)
  have h44 := h43.add (sound_runS (B := []) (ok.b []) m true Tryz.func88 rfl rfl)
  have h45 := h44.add (sound_runS (B := []) (ok.b []) m true Tryz.func87 rfl rfl)
  have h46 := h45.add (sound_runS (B := []) (ok.b []) m true Tryz.func86 rfl rfl)
  have h47 := h46.add (sound_runS (B := []) (ok.b []) m true Tryz.func85 rfl rfl)
  have h48 := h47.add (sound_runS (B := []) (ok.b []) m true Tryz.func84 rfl rfl)
  have h49 := h48.add (sound_runS (B := []) (ok.b []) m true Tryz.func81 rfl rfl)
  have h50 := h49.add (sound_runS (B := []) (ok.b []) m false Tryz.func79 rfl rfl)
  have h51 := h50.add (sound_runS (B := []) (ok.b []) m true Tryz.func78 rfl rfl)
  have h52 := h51.add (sound_runS (B := []) (ok.b []) m false Tryz.func77 rfl rfl)
  have h53 := h52.add (sound_runS (B := []) (ok.b []) m true Tryz.func75 rfl rfl)
  have h54 := h53.add (sound_runS (B := []) (ok.b []) m true Tryz.func74 rfl rfl)
  have h55 := h54.add (sound_runS (B := []) (ok.b []) m false Tryz.func73 rfl rfl)
  have h56 := h55.add (sound_runS (B := []) (ok.b []) m false Tryz.func72 rfl rfl)
  have h57 := h56.add (sound_orS f_CloneT0 (sound_runS (B := []) (ok.b []) m false Tryz.func68 rfl rfl))
  have h58 := h57.add (sound_runS (B := []) (ok.b []) m false Tryz.func67 rfl rfl)
  have h59 := h58.add (sound_runS (B := []) (ok.b []) m false Tryz.func66 rfl rfl)
  have h60 := h59.add (sound_runS (B := []) (ok.b []) m false Tryz.func65 rfl rfl)
  have h61 := h60.add (sound_runS (B := []) (ok.b []) m false Tryz.func64 rfl rfl)
  have h62 := h61.add (sound_runS (B := []) (ok.b []) m false Tryz.func63 rfl rfl)
  have h63 := h62.add (sound_runS (B := []) (ok.b []) m false Tryz.func62 rfl rfl)
  have h64 := h63.add (sound_runS (B := []) (ok.b []) m true Tryz.func61 rfl rfl)
  have h65 := h64.add (sound_runS (B := []) (ok.b []) m true Tryz.func60 rfl rfl)
  have h66 := h65.add (sound_runS (B := []) (ok.b []) m false Tryz.func59 rfl rfl)
  have h67 := h66.add (sound_runS (B := []) (ok.b []) m false Tryz.func58 rfl rfl)
  have h68 := h67.add (sound_runS (B := []) (ok.b []) m false Tryz.func56 rfl rfl)
  have h69 := h68.add (sound_runS (B := []) (ok.b []) m true Tryz.func55 rfl rfl)
  have h70 := h69.add (sound_runS (B := []) (ok.b []) m true Tryz.func54 rfl rfl)
  have h71 := h70.add (sound_runS (B := []) (ok.b []) m true Tryz.func53 rfl rfl)
  have h72 := h71.add (sound_runS (B := []) (ok.b []) m true Tryz.func52 rfl rfl)
  have h73 := h72.add (sound_runS (B := []) (ok.b []) m true Tryz.func51 rfl rfl)
  have h74 := h73.add (sound_runS (B := []) (ok.b []) m true Tryz.func50 rfl rfl)
  have h75 := h74.add (sound_runS (B := []) (ok.b []) m true Tryz.func49 rfl rfl)
  have h76 := h75.add (sound_runS (B := []) (ok.b []) m true Tryz.func48 rfl rfl)
  have h77 := h76.add (sound_runS (B := []) (ok.b []) m true Tryz.func47 rfl rfl)
  have h78 := h77.add (sound_runS (B := []) (ok.b []) m false Tryz.func46 rfl rfl)
  have h79 := h78.add (sound_runS (B := []) (ok.b []) m true Tryz.func44 rfl rfl)
  have h80 := h79.add (sound_runS (B := []) (ok.b []) m true Tryz.func43 rfl rfl)
  have h81 := h80.add (sound_runS (B := []) (ok.b []) m false Tryz.func42 rfl rfl)
  have h82 := h81.add (sound_runS (B := [76]) (ok.b [76]) m false Tryz.func41 rfl rfl)
  have h83 := h82.add (sound_runS (B := []) (ok.b []) m false Tryz.func40 rfl rfl)
  have h84 := h83.add (sound_runS (B := []) (ok.b []) m false Tryz.func38 rfl rfl)
  have h85 := h84.add (sound_runS (B := []) (ok.b []) m false Tryz.func36 rfl rfl)
  have h86 := h85.add (sound_runS (B := []) (ok.b []) m true Tryz.func33 rfl rfl)
  have h87 := h86.add (sound_runS (B := []) (ok.b []) m true Tryz.func32 rfl rfl)
  have h88 := h87.add (sound_runS (B := []) (ok.b []) m true Tryz.func31 rfl rfl)
  have h89 := h88.add (sound_runS (B := []) (ok.b []) m true Tryz.func30 rfl rfl)
  have h90 := h89.add (sound_runS (B := []) (ok.b []) m true Tryz.func29 rfl rfl)
  have h91 := h90.add (sound_runS (B := []) (ok.b []) m false Tryz.func28 rfl rfl)
  have h92 := h91.add (sound_runS (B := []) (ok.b []) m false Tryz.func27 rfl rfl)
  have h93 := h92.add (sound_runS (B := []) (ok.b []) m true Tryz.func26 rfl rfl)
  have h94 := h93.add (sound_runS (B := []) (ok.b []) m true Tryz.func25 rfl rfl)
  have h95 := h94.add (sound_runS (B := []) (ok.b []) m false Tryz.func24 rfl rfl)
  have h96 := h95.add (sound_runS (B := []) (ok.b []) m true Tryz.func23 rfl rfl)
  have h97 := h96.add (sound_runS (B := []) (ok.b []) m false Tryz.func21 rfl rfl)
  have h98 := h97.add (sound_runS (B := [13, 22, 68]) (ok.b [13, 22, 68]) m true Tryz.func16 rfl rfl)
  have h99 := h98.add (sound_runS (B := []) (ok.b []) m false Tryz.func12 rfl rfl)
  have h100 := h99.add (sound_runS (B := []) (ok.b []) m true Tryz.func9 rfl rfl)
  have h101 := h100.add (sound_runS (B := []) (ok.b []) m false Tryz.func7 rfl rfl)
  exact h101
noncomputable def envMC (m : Nat) : Nat → Env
  | 0 => baseMD
  | d + 1 => stepMC m (envMC m d)
theorem ok_envMC (m : Nat) : ∀ d, OkX Tryz.prog (XE (envMC m d))
  | 0 => ok_baseMD
  | d + 1 => ok_stepMC m (ok_envMC m d)
end Go.Proofs.YtgpkochbmfhmdaaGreatDoor.Lift
namespace Go.Proofs.YtgpkochbmfhmdaaGreatDoor.Lift
open Go
set_option maxRecDepth 100000

theorem run_works17 : comesTo (.bool true) (runK (XF (envMC 400 30) [13, 22, 68]) 400 Tryz.f16 (Tryz.f16.body.get rfl) [] []) = true := by kernel_rfl
theorem p_works17 : SoundP Tryz.prog gl 16 (atV [] (.bool true)) := soundP_at [13, 22, 68] (ok_envMC 400 30) 400 Tryz.func16 rfl rfl rfl run_works17
end Go.Proofs.YtgpkochbmfhmdaaGreatDoor.Lift
namespace Go.Proofs.YtgpkochbmfhmdaaGreatDoor.Lift
open Go
set_option maxRecDepth 100000

theorem pushT_nil (c : ACallF) : pushT c [] = c := by
  cases c; simp [pushT]
theorem popT_push (c : ACallF) (l : List AVal) (i : Nat) (h : i < l.length) : popT (pushT c (l.take (i + 1))) = (pushT c (l.take i), l[i], 0) := by
  have e : l.take (i + 1) = l.take i ++ [l[i]] := List.take_succ_eq_append_getElem h
  unfold popT pushT
  rw [e]
  simp only
  rw [if_neg (fun e => by have := congrArg List.length e; simp only [List.length_append, List.length_cons, List.length_nil] at this; omega), ← List.append_assoc, List.dropLast_concat, List.getLastD_concat]
def gCallBack (c : ACallF) (l : List AVal) : Option Bool := if c.locals.length < 274877906944 ∧ c.stack.length < 274877906944 ∧ l.length < 274877906944 then some true else none
theorem ok_CallBack : OkX Tryz.prog (XE [(16, liftS 9 (atV [] (.bool true))), (17, liftS 9 (fn2 (cL cClass) cCallF encBool gLight17)), (18, sPure (fn2 cCallF (cL cVal) encCallF gPush)), (19, sPure (fn1 cCallF encPop gPop)), (20, liftS 9 (fn2 cCallF cCallF encBool gSameCall))]) :=
  ((((okX_nil.addP p_SameCall).add f_Pop).add f_Push).addP p_light17).addP p_works17
set_option maxHeartbeats 2000000 in
theorem p_CallBack : SoundP Tryz.prog gl 4 (fn2 cCallF (cL cVal) encBool gCallBack) := by
  refine soundP_of_wk ok_CallBack mixed Tryz.func4 rfl rfl fun args r h G0 => ?_
  obtain ⟨c, l, e, rfl, he, rfl⟩ := fn2_inv h
  simp only [gCallBack, Option.ite_none_right_eq_some, Option.some.injEq] at he
  obtain ⟨⟨b1, b2, b3⟩, rfl⟩ := he
  clear h
  have hpush : ∀ st : Sto, sPure (fn2 cCallF (cL cVal) encCallF gPush) [encCallF c, .sl (l.map encVal)] st = some (encCallF (pushT c l), st) := fun st => by
    have e : fn2 cCallF (cL cVal) encCallF gPush [cCallF.enc c, (cL cVal).enc l] = some (encCallF (pushT c l)) := by
      rw [fn2_eq, cCallF.de, Option.bind_some, (cL cVal).de, Option.bind_some, gPush, if_pos ⟨by omega, by omega⟩]
      rfl
    show (fn2 cCallF (cL cVal) encCallF gPush [cCallF.enc c, (cL cVal).enc l]).map _ = _
    rw [e]; rfl
  have hpop : ∀ (i : Nat) (hi : i < l.length) (st : Sto), sPure (fn1 cCallF encPop gPop) [encCallF (pushT c (l.take (i + 1)))] st = some (.tup [encCallF (pushT c (l.take i)), encVal l[i], .int .i64 0], st) := fun i hi st => by
    have e : fn1 cCallF encPop gPop [cCallF.enc (pushT c (l.take (i + 1)))] = some (.tup [encCallF (pushT c (l.take i)), encVal l[i], .int .i64 0]) := by
      rw [fn1_eq, cCallF.de, Option.bind_some, gPop, if_pos ⟨by show c.locals.length < _; omega, by show (c.stack ++ l.take (i + 1)).length < _; rw [List.length_append, List.length_take]; omega⟩, popT_push c l i hi]
      rfl
    show (fn1 cCallF encPop gPop [cCallF.enc (pushT c (l.take (i + 1)))]).map _ = _
    rw [e]; rfl
  simp only [encCallF] at hpush hpop
  have q1 : c.locals.length < 549755813888 := by omega
  have q2 : c.stack.length < 549755813888 := by omega
  have q3 : c.locals.length < 1099511627776 := by omega
  have q4 : c.stack.length < 1099511627776 := by omega
  have hwl := wrap_i64 (show (-9223372036854775808 : Int) ≤ (l.length : Int) - 1 by omega) (by omega)
  by_cases hlt : c.locals.length + c.stack.length ≤ 1500
  · by_cases hl : (100 : Int) < l.length
    · simp [Tryz.f4, entry, atV, eqAL, gLight17, q1, q2, hlt, hl]
      exact finS_fz rfl
    · simp [Tryz.f4, entry, atV, eqAL, gLight17, q1, q2, hlt, hl, hpush, hwl]
      refine lp_of ok_CallBack mixed (fun (i : Nat) => ⟨50, frL [(1, .sl (l.map encVal)), (2, .ptr 0 0 0 0), (5, .ptr 1 0 0 0), (6, .int .i64 ((i : Int) - 1))], [.row 6 0 0 [encCallF c], .row 6 0 0 [encCallF (pushT c (l.take i))]]⟩) (fun i => i ≤ l.length) (fun i => i) l.length (Nat.le_refl _) (weak_frL rfl (by simp) (by simp)) ?_
      intro i hi
      simp
      cases i with
      | zero =>
        simp [pushT_nil, gSameCall, q3, q4]
        exact finS_fz rfl
      | succ i =>
        have hx : l[i]? = some l[i] := by simp [show i < l.length by omega]
        have hp := hpop i (by omega)
        have h0 : (1 ≤ (i : Int) + 1) = True := eq_true (by omega)
        have hw := wrap_i64 (show (-9223372036854775808 : Int) ≤ (i : Int) - 1 by omega) (by omega)
        simp [hp, h0]
        refine dk_of (by decide) ?_
        simp [hx, hw]
        exact nextQ_less i (by omega) (by omega) (less_take fz_gl G0.2 rfl (by simp) (by simp) (by simp))
  · simp [Tryz.f4, entry, atV, eqAL, gLight17, q1, q2, hlt]
    exact finS_fz rfl
end Go.Proofs.YtgpkochbmfhmdaaGreatDoor.Lift
namespace Go.Proofs.YtgpkochbmfhmdaaGreatDoor.Lift
open Go

/-- the types of the table: what they are made of is in the table; no slice's elements are of no size -/
def kidsOk (P : Program) (n : Nat) : TypeDesc → Bool
  | .pointer e => decide (e < n)
  | .slice e => decide (e < n) && decide (0 < P.cellsOf e)
  | .array _ e => decide (e < n)
  | .map _ e => decide (e < n)
  | .struct fs => fs.toList.all fun f => decide (f.type < n)
  | _ => true
def NoNull (P : Program) : Prop := (List.range P.types.size).all (fun t => match P.underlying t with | some d => kidsOk P P.types.size d | none => true) = true
theorem NoNull.kids {P : Program} (h : NoNull P) {t : TypeId} (ht : t < P.types.size) {d : TypeDesc} (hd : P.underlying t = some d) : kidsOk P P.types.size d = true := by
  have := List.all_eq_true.1 h t (List.mem_range.2 ht)
  simpa only [hd] using this

section
variable {H : Type} {enc : TypeId × Value → H} {P : Program} {w : World} {base : Nat} {sp : Nat → Bool}

theorem trodStep_spare (hn : NoNull P) {r r' : TypeId → List Value → Option (DataW H × List MemPlace)}
    (hr : ∀ t cs x, t < P.types.size → r t cs = some x → (∀ p ∈ x.2, sp p.block = true) → r' t cs = some x) {t : TypeId} (htn : t < P.types.size) {cs : List Value} {x : DataW H × List MemPlace}
    (h : DataW.trodStep enc P w base (fun _ => true) true r t cs = some x) (hs : ∀ p ∈ x.2, sp p.block = true) : DataW.trodStep enc P w base sp true r' t cs = some x := by
  unfold DataW.trodStep at h ⊢
  split at h
  case h_1 => exact h
  case h_2 => exact h
  case h_3 => exact h
  case h_4 => exact h
  case h_5 => exact h
  case h_6 e a hu =>
    have hk := hn.kids htn hu
    simp only [kidsOk, decide_eq_true_eq] at hk
    simp only [Option.map_eq_some_iff, Option.bind_eq_some_iff] at h ⊢
    obtain ⟨y, ⟨cs', hc, hy⟩, rfl⟩ := h
    exact ⟨y, ⟨cs', hc, hr _ _ _ hk hy (fun p hp => hs p (by simp [hp]))⟩, rfl⟩
  case h_7 => exact h
  case h_8 e a len cap hu =>
    have hk := hn.kids htn hu
    simp only [kidsOk, Bool.and_eq_true, decide_eq_true_eq] at hk
    simp only at h ⊢
    split at h
    · rename_i hc
      rw [if_pos hc]
      simp only [if_true, Option.map_eq_some_iff, Option.bind_eq_some_iff] at h ⊢
      obtain ⟨elems, he, rest, hrest, rfl⟩ := h
      have hel := mapM_some_length he
      have hrl := mapM_some_length hrest
      simp only [List.length_range] at hel hrl
      have conv : ∀ {l : List Nat} {z : List (DataW H × List MemPlace)} {f : Nat → Nat}, (l.mapM fun i => (w.cells? base (a.add (f i * P.cellsOf e)) (P.cellsOf e)).bind (r e)) = some z → (∀ y ∈ z, ∀ p ∈ y.2, sp p.block = true) →
          (l.mapM fun i => (w.cells? base (a.add (f i * P.cellsOf e)) (P.cellsOf e)).bind (r' e)) = some z := fun hz hsz => mapM_carry hz fun i y _ hy hiy => by
        simp only [Option.bind_eq_some_iff] at hiy ⊢
        obtain ⟨cs', h1, h2⟩ := hiy
        exact ⟨cs', h1, hr _ _ _ hk.1 h2 (hsz y hy)⟩
      have h1 : ∀ y ∈ elems, ∀ p ∈ y.2, sp p.block = true := fun y hy p hp => hs p (by
        simp only [List.mem_append, List.mem_flatMap]
        exact .inr ⟨y, .inl hy, hp⟩)
      have h2 : ∀ y ∈ rest, ∀ p ∈ y.2, sp p.block = true := fun y hy p hp => hs p (by
        simp only [List.mem_append, List.mem_flatMap]
        exact .inr ⟨y, .inr hy, hp⟩)
      refine ⟨elems, conv (f := id) he h1, rest, ?_, rfl⟩
      cases hsp : sp a.block with
      | true => exact conv (f := fun j => len + j) hrest h2
      | false =>
        -- then there is no place at all: nothing is spared
        have : cap = 0 := by
          apply Classical.byContradiction
          intro hcap
          have hpos := hk.2
          have hmem : MemPlace.cell a.block a.off ∈ MemPlace.row a ((elems.length + rest.length) * P.cellsOf e) := MemPlace.mem_row.2 ⟨0, by
            rw [hel, hrl]
            have : len + (cap - len) = cap := by omega
            rw [this]
            exact Nat.mul_pos (by omega) hpos, by simp⟩
          have := hs (MemPlace.cell a.block a.off) (by simp only [List.mem_append]; exact .inl hmem)
          simp only [MemPlace.block] at this
          rw [hsp] at this
          cases this
        have hlen : cap - len = 0 := by omega
        rw [hlen] at hrest
        simp at hrest
        simp [hrest]
    · cases h
  case h_9 fs cs' hu =>
    have hk := hn.kids htn hu
    simp only [kidsOk, List.all_eq_true, decide_eq_true_eq] at hk
    split at h
    · rename_i hc
      rw [if_pos hc]
      simp only [Option.map_eq_some_iff] at h ⊢
      obtain ⟨xs, hx, rfl⟩ := h
      exact ⟨xs, mapM_carry hx (fun f y hf hy hv => hr _ _ _ (hk f hf) hv (fun p hp => hs p (List.mem_flatMap.2 ⟨y, hy, hp⟩))), rfl⟩
    · cases h
  case h_10 m e cs' hu =>
    have hk := hn.kids htn hu
    simp only [kidsOk, decide_eq_true_eq] at hk
    split at h
    · rename_i hc
      rw [if_pos hc]
      simp only [Option.map_eq_some_iff] at h ⊢
      obtain ⟨xs, hx, rfl⟩ := h
      exact ⟨xs, mapM_carry hx (fun f y _ hy hv => hr _ _ _ hk hv (fun p hp => hs p (List.mem_flatMap.2 ⟨y, hy, hp⟩))), rfl⟩
    · cases h
  case h_11 => exact h
  case h_12 => exact h
  case h_13 => exact h
  case h_14 k e b hu =>
    have hk' := hn.kids htn hu
    simp only [kidsOk, decide_eq_true_eq] at hk'
    split at h
    · rename_i es clock hb
      split at h
      · rename_i hc
        simp only [Option.bind_eq_some_iff] at h
        obtain ⟨entries, he, hd⟩ := h
        split at hd
        · rename_i hris
          have hx := Option.some.inj hd
          subst hx
          simp only [if_pos hc, Option.bind_eq_some_iff]
          refine ⟨entries, mapM_carry he (fun x y _ hy hv => ?_), by simp [hris]⟩
          simp only [Option.bind_eq_some_iff] at hv ⊢
          obtain ⟨key, hk, hz⟩ := hv
          refine ⟨key, hk, ?_⟩
          split at hz
          · rename_i hf
            rw [if_pos hf]
            simp only [Option.map_eq_some_iff] at hz ⊢
            obtain ⟨q, hq, rfl⟩ := hz
            exact ⟨q, hr _ _ _ hk' hq (fun p hp => hs p (by simp only [List.mem_cons, List.mem_flatMap]; right; exact ⟨_, hy, hp⟩)), rfl⟩
          · cases hz
        · cases hd
      · cases h
    · cases h
  case h_15 => exact h
  case h_16 => exact h
  case h_17 => exact h
  case h_18 => exact h
  case h_19 => exact h
  case h_20 => exact h
  case h_21 => cases h

theorem trod_spare (hn : NoNull P) : ∀ (n : Nat) (t : TypeId) (cs : List Value) (x : DataW H × List MemPlace), t < P.types.size →
    DataW.trod enc P w base (fun _ => true) true n t cs = some x → (∀ p ∈ x.2, sp p.block = true) → DataW.trod enc P w base sp true n t cs = some x := by
  intro n
  induction n with
  | zero => intro t cs x _ h; simp [DataW.trod] at h
  | succ n ih =>
    intro t cs x htn h hs
    rw [DataW.trod_step] at h ⊢
    exact trodStep_spare hn ih htn h hs

/-- the arguments read behind the call as they read before -/
theorem trodAll_behind {w' : World} (hn : NoNull P) : ∀ {ts : List TypeId} {vs : List Value} {ds : List (DataW H)} {ps : List MemPlace}, (∀ t ∈ ts, t < P.types.size) → DataW.TrodAll enc P w 0 (fun _ => true) true ts vs ds ps →
    (∀ p ∈ ps, w.sameAt w' p) → (∀ p ∈ ps, sp p.block = true) → DataW.TrodAll enc P w' 0 sp true ts vs ds ps
  | [], [], [], _, _, h, _, _ => h
  | _ :: _, _ :: _, _ :: _, _, ht, ⟨p, q, ⟨n, h1⟩, h2, e⟩, h3, h4 => by
    subst e
    refine ⟨p, q, ⟨n, trod_spare hn n _ _ _ (ht _ (by simp)) (DataW.trod_carry n _ _ _ h1 fun x hx => h3 x (by simp [hx])) fun x hx => h4 x (by simp [hx])⟩, trodAll_behind hn (fun t htm => ht t (by simp [htm])) h2 (fun x hx => h3 x (by simp [hx])) (fun x hx => h4 x (by simp [hx])), rfl⟩
end

theorem below_of_ext {G G' : Gh} (hσ : G.σ = []) (hz : ∀ blk, ¬ G.z blk) (x : Ext G G') : RowKit.Below G.w.heap.size G.w G'.w := ⟨x.os, x.tape, x.output, x.size, fun k hk => x.old k hk (owned_nil hσ k) (fun h => absurd h (hz k))⟩

/-- where a statement's walk begins: all that there is is frozen -/
def startG (W : World) : Gh := { w := W, φ := fun b _ => b < W.heap.size, ρ := fun _ _ => none, σ := [] }
theorem inv_start (W : World) : Inv (startG W) := inv_nil rfl (fun _ _ h => h)

open Go.ChangeShapes Go.WideShapes in
/-- A LAW THAT RETURNS true AND LEAVES ITS ARGUMENTS AS THEY WERE, from a pure contract -/
theorem post_trueG {gl : Nat → Option AV} {H : Type} {enc : TypeId × Value → H} {P : Program} (hn : NoNull P) {f : Nat} {fn : Func} {g : List AV → Option AV} (hp : SoundP P gl f g) (hfn : P.funcs[f]? = some fn) (hbody : fn.body.isNone = false) (hname : (fn.name == "runtime.NumGoroutine") = false) {tb : TypeId} (htb : P.underlying tb = some .bool)
    (hres : fn.resultTypes = #[tb]) {s : ChangeSpec} (hvars : s.vars = []) (hpt : ∀ t ∈ fn.params.toList, t < P.types.size) {apart fresh handsOn again : Bool} {W : World} {args : Array Value} {ds gs : List (DataW H)} {before : List MemPlace}
    (hW : DataW.Whole enc P fn.params.toList s.vars apart W args.toList ds gs before) (hs : s.fn H (ds ++ gs) = { results := [.lit (.bool true)], args := ds })
    (hgl : GlobG gl (startG W)) {aargs : List AV} (hrep : RepL (startG W) aargs args.toList) (hg : g aargs = some (.bool true)) :
    Calls P f args W fun e W' => ∃ v, e = .returned v ∧ s.post enc P fn apart fresh handsOn again W args v W' := by
  have hc := hp.calls (startG W) aargs args.toList (.bool true) hg (inv_start W) rfl rfl hgl hrep
  rw [Array.toArray_toList] at hc
  have hcalls : Calls P f args W (Ret (startG W) (.bool true) []) := by
    rcases hc with ⟨_, h⟩ | ⟨v, w', h, _⟩
    · exact h
    · rw [run_callFunc hfn hbody hname] at h
      cases h
  refine calls_imp hcalls fun e W' he => ?_
  cases e with
  | panicked c => exact he.elim
  | outgrown => exact he.elim
  | returned v =>
    obtain ⟨G', rfl, hσ, x, inv', hr⟩ := he
    cases hr
    have hb : RowKit.Below W.heap.size W G'.w := below_of_ext (G := startG W) rfl (fun _ h => h) x
    have hW' := hW
    obtain ⟨p, q, h1, h2, rfl, hz, hnd⟩ := hW
    rw [hvars] at h2
    obtain ⟨rfl, rfl⟩ := trodVars_none h2
    have hargs : ∀ sp : Nat → Bool, (∀ y ∈ p ++ [], sp y.block = true) → DataW.TrodAll enc P G'.w 0 sp true fn.params.toList args.toList (s.fn H (ds ++ [])).args p := fun sp hsp => by
      rw [hs]
      exact trodAll_behind hn hpt h1 (fun y hy => hb.same (hW'.lt y (by simpa using hy))) (fun y hy => hsp y (by simpa using hy))
    have hresd : ∀ (b : Nat) (sp : Nat → Bool) (hd : Bool), DataW.TrodAll enc P G'.w b sp hd fn.resultTypes.toList ((Value.bool true).resultList fn.resultTypes.size) (s.fn H (ds ++ [])).results [] := fun b sp hd => by
      rw [hs, hres]
      exact trodAll_cons_mk (RowKit.shut_bool htb true) trodAll_mk0
    have hold : ∀ y ∈ p ++ [], (fun b => decide (b < W.heap.size)) y.block = true := fun y hy => by simpa using hW'.lt y hy
    have hvd : ∀ sp : Nat → Bool, DataW.TrodVars enc P G'.w sp s.vars (s.fn H (ds ++ [])).vars [] := fun sp => by
      rw [hs, hvars]
      exact rfl
    refine ⟨_, rfl, ds, [], p ++ [], [], p, [], hW', hresd _ _ _, hargs _ hold, hvd _, hb.frame _, fun _ => ⟨?_, _, _, ([] ++ p) ++ [], ⟨[] ++ p, [], trodAll_append (hargs _ (fun _ _ => rfl)) (hresd _ _ _), hvd _, rfl, ?_, ?_⟩, ?_⟩⟩
    · intro j t r h3 h4
      rw [hres] at h3 h4
      cases j with
      | zero =>
        simp only [List.getElem?_toArray, List.getElem?_cons_zero, Option.some.injEq] at h3
        subst h3
        simp [Value.resultList] at h4
        subst h4
        exact RowKit.okWide_bool_mk htb true
      | succ j => simp at h3
    · intro b off hp'
      have hlt := hW'.lt _ (show MemPlace.cell b off ∈ p ++ [] by simpa using hp')
      rw [hb.frozen (p := ⟨b, off, none⟩) hlt]
      exact hz b off (by simpa using hp')
    · intro ha
      simpa using hnd ha
    · intro y hy _
      simpa using hy
theorem post_true {H : Type} {enc : TypeId × Value → H} {P : Program} (hn : NoNull P) {f : Nat} {fn : Func} {g : List AV → Option AV} (hp : SoundP P (fun _ => none) f g) (hfn : P.funcs[f]? = some fn) (hbody : fn.body.isNone = false) (hname : (fn.name == "runtime.NumGoroutine") = false) {tb : TypeId} (htb : P.underlying tb = some .bool)
    (hres : fn.resultTypes = #[tb]) {s : ChangeSpec} (hvars : s.vars = []) (hpt : ∀ t ∈ fn.params.toList, t < P.types.size) {apart fresh handsOn again : Bool} {W : World} {args : Array Value} {ds gs : List (DataW H)} {before : List MemPlace}
    (hW : DataW.Whole enc P fn.params.toList s.vars apart W args.toList ds gs before) (hs : s.fn H (ds ++ gs) = { results := [.lit (.bool true)], args := ds })
    {aargs : List AV} (hrep : RepL (startG W) aargs args.toList) (hg : g aargs = some (.bool true)) :
    Calls P f args W fun e W' => ∃ v, e = .returned v ∧ s.post enc P fn apart fresh handsOn again W args v W' :=
  post_trueG hn hp hfn hbody hname htb hres hvars hpt hW hs (fun _ _ h => by cases h) hrep hg

end Go.Proofs.YtgpkochbmfhmdaaGreatDoor.Lift
namespace Go.Proofs.YtgpkochbmfhmdaaGreatDoor.Lift
open Go

/-- what is read of a type lies there as a typed value (z: how much it is) -/
structure Reads (P : Program) (t : TypeId) {α : Type} (c : Cod α) (z : α → Nat) : Prop where
  read : ∀ {H : Type} {enc : TypeId × Value → H} {W : World} {base : Nat} {sp : Nat → Bool} {n : Nat} {cs : List Value} {x : DataW H × List MemPlace}, DataW.trod enc P W base sp true n t cs = some x → ∃ a : α, RepL (startG W) (c.enc a).cells cs ∧ z a ≤ Rows.uptoBulk x.1
  top : ∀ {W W' : World} {r : Reach} {b : Nat} {a : α} {v : Value}, Value.okWide P W' r b t v → RepL (startG W) (c.enc a).cells v.cells.toList → Rep (startG W) (c.enc a) v
  size : ∀ a, (c.enc a).cells.length = P.cellsOf t

theorem repL_length {G : Gh} : ∀ {xs : List AV} {vs : List Value}, RepL G xs vs → xs.length = vs.length
  | _, _, .nil => rfl
  | _, _, .cons _ t => by simp [repL_length t]
theorem repL_append {G : Gh} : ∀ {xs ys : List AV} {vs ws : List Value}, RepL G xs vs → RepL G ys ws → RepL G (xs ++ ys) (vs ++ ws)
  | _, _, _, _, .nil, h => h
  | _, _, _, _, .cons h t, h' => .cons h (repL_append t h')

theorem reads_int {P : Program} {t : TypeId} (ht : P.underlying t = some (.int .i64)) (hc : P.cellsOf t = 1) : Reads P t cInt (fun _ => 1) where
  read := fun h => by
    obtain ⟨n, rfl, rfl, _⟩ := DataW.trod_int ht h
    exact ⟨n, .cons (.int _ _) .nil, by simp [Rows.uptoBulk]⟩
  top := fun hv h => by
    obtain ⟨n, rfl⟩ := WideShapes.okWide_int ht hv
    cases h with
    | cons h _ => exact h
  size := fun a => by rw [hc]; rfl
theorem reads_bool {P : Program} {t : TypeId} (ht : P.underlying t = some .bool) (hc : P.cellsOf t = 1) : Reads P t cBool (fun _ => 1) where
  read := fun h => by
    obtain ⟨n, rfl, rfl⟩ := DataW.trod_bool ht h
    exact ⟨n, .cons (.bool _) .nil, by simp [Rows.uptoBulk]⟩
  top := fun hv h => by
    obtain ⟨n, rfl⟩ := WideShapes.okWide_bool ht hv
    cases h with
    | cons h _ => exact h
  size := fun a => by rw [hc]; rfl
theorem reads_str {P : Program} {t : TypeId} (ht : P.underlying t = some .string) (hc : P.cellsOf t = 1) : Reads P t cStr (fun s => s.length + 1) where
  read := fun h => by
    obtain ⟨s, rfl, rfl, _⟩ := DataW.trod_string ht h
    exact ⟨s.data.toList, .cons (.str s) .nil, by simp [Rows.uptoBulk]⟩
  top := fun hv h => by
    obtain ⟨n, rfl⟩ := WideShapes.okWide_string ht hv
    cases h with
    | cons h _ => exact h
  size := fun a => by rw [hc]; rfl
theorem reads_byte {P : Program} {t : TypeId} (ht : P.underlying t = some (.int .u8)) (hc : P.cellsOf t = 1) : Reads P t cByte (fun _ => 1) where
  read := fun h => by
    obtain ⟨n, rfl, rfl, hw⟩ := DataW.trod_int ht h
    have hw' : 0 ≤ n ∧ n < 256 := by
      simp [Lit.wf, IntKind.has, IntKind.min, IntKind.max, IntKind.bits, IntKind.signed] at hw
      omega
    refine ⟨UInt8.ofNat n.toNat, ?_, by simp [Rows.uptoBulk]⟩
    have : (cByte.enc (UInt8.ofNat n.toNat)) = .int .u8 n := by
      show AV.int .u8 _ = _
      congr 1
      rw [UInt8.toNat_ofNat_of_lt' (by show n.toNat < 256; omega)]
      omega
    rw [this]
    exact .cons (.int _ _) .nil
  top := fun hv h => by
    obtain ⟨n, rfl⟩ := WideShapes.okWide_int ht hv
    cases h with
    | cons h _ => exact h
  size := fun a => by rw [hc]; rfl

/-- what a list is -/
def zL {α : Type} (z : α → Nat) (l : List α) : Nat := (l.map z).sum + 1

theorem repCells_start {W : World} : ∀ {xs : List AV} {cs : List Value} {b o : Nat}, RepL (startG W) xs cs → (∀ (i : Nat) v, cs[i]? = some v → W.cell? ⟨b, o + i, none⟩ = some v) → RepCells (startG W) xs b o
  | _, _, b, o, .nil, _ => .nil b o
  | _, _, b, o, .cons h t, hc => by
    have h0 := hc 0 _ rfl
    refine .cons ?_ h0 h (repCells_start t fun i v hv => by have := hc (i + 1) v (by simpa using hv); rwa [show o + (i + 1) = o + 1 + i by omega] at this)
    show b < W.heap.size
    apply Classical.byContradiction
    intro hb
    have : W.heap[b]? = none := by simp; omega
    simp [World.cell?, this] at h0

theorem cells_start {P : Program} {W : World} {base : Nat} {a : Addr} {n : Nat} {cs : List Value} {xs : List AV} (hn : 0 < n) (h : W.cells? base a n = some cs) (hr : RepL (startG W) xs cs) : a.spot = none ∧ RepCells (startG W) xs a.block a.off := by
  unfold World.cells? at h
  split at h
  · have hg : ∀ i, i < n → W.cell? (a.add i) = cs[i]? := fun i hi => by
      have := mapM_some_get h i i (by simp [hi])
      exact this
    have hl : cs.length = n := by have := mapM_some_length h; simpa using this
    have h0 : a.spot = none := by
      have := hg 0 hn
      rw [show a.add 0 = a from rfl] at this
      have h1 : cs[0]? = some cs[0] := by simp
      rw [h1] at this
      unfold World.cell? at this
      split at this
      · split at this
        · cases this
        · rename_i hs; simpa using hs
      · cases this
    refine ⟨h0, repCells_start hr fun i v hv => ?_⟩
    have hi : i < n := by rw [← hl]; exact (List.getElem?_eq_some_iff.1 hv).1
    have := hg i hi
    rw [hv] at this
    have e : a.add i = ⟨a.block, a.off + i, none⟩ := by
      unfold Addr.add
      split
      · rename_i hz; subst hz; cases a; simp_all
      · rfl
    rwa [e] at this
  · cases h

theorem reads_slice {P : Program} {t e : TypeId} {α : Type} {c : Cod α} {z : α → Nat} (ht : P.underlying t = some (.slice e)) (he : Reads P e c z) (hc : P.cellsOf t = 1) (hpos0 : decide (0 < P.cellsOf e) = true) : Reads P t (cL c) (zL z) where
  read := fun {H} {enc} {W} {base} {sp} {n} {cs} {x} h => by
    have hpos := of_decide_eq_true hpos0
    rcases DataW.trod_slice ht h with ⟨rfl, rfl⟩ | ⟨a, len, cap, elems, rest, m, _, rfl, rfl, _, hlc, _, hl, hel, _, _⟩
    · exact ⟨[], .cons (.sl0 none 0 (fun _ => rfl)) .nil, by simp [Rows.uptoBulk, zL]⟩
    · have key : ∀ k, k ≤ len → ∃ l : List α, l.length = k ∧ (0 < k → a.spot = none ∨ k < len) ∧ RepElems (startG W) (l.map c.enc) a.block (a.off + (len - k) * P.cellsOf e) (P.cellsOf e) ∧ (l.map z).sum ≤ Rows.uptoBulkAll ((elems.drop (len - k)).map (·.1)) := by
        intro k
        induction k with
        | zero => exact fun _ => ⟨[], rfl, fun h => absurd h (by omega), .nil _ _ _, by simp⟩
        | succ k ih =>
          intro hk
          obtain ⟨l, h1, h2, h3, h4⟩ := ih (by omega)
          have hi : len - (k + 1) < len := by omega
          have hlt : len - (k + 1) < elems.length := by omega
          have hget := hel (len - (k + 1)) hi
          rw [List.getElem?_eq_getElem hlt] at hget
          simp only [Option.bind_eq_some_iff] at hget
          obtain ⟨cs', hcs, htr⟩ := hget
          obtain ⟨y, hy, hz⟩ := he.read htr
          obtain ⟨hs, hcells⟩ := cells_start (P := P) hpos hcs hy
          have hsz := he.size y
          have e1 : (a.add ((len - (k + 1)) * P.cellsOf e)).block = a.block := by unfold Addr.add; split <;> rfl
          have e2 : (a.add ((len - (k + 1)) * P.cellsOf e)).off = a.off + (len - (k + 1)) * P.cellsOf e := by
            unfold Addr.add
            split
            · rename_i hz; rw [hz]; rfl
            · rfl
          rw [e1, e2] at hcells
          have e3 : a.off + (len - (k + 1)) * P.cellsOf e + P.cellsOf e = a.off + (len - k) * P.cellsOf e := by
            have : len - k = (len - (k + 1)) + 1 := by omega
            rw [this, Nat.add_mul]
            omega
          refine ⟨y :: l, by simp [h1], fun _ => ?_, ?_, ?_⟩
          · by_cases hk' : k + 1 < len
            · exact .inr hk'
            · left
              have : len - (k + 1) = 0 := by omega
              rw [this, Nat.zero_mul] at hs
              exact hs
          · rw [List.map_cons]
            refine .cons hsz hcells ?_
            rw [e3]
            exact h3
          · rw [List.drop_eq_getElem_cons hlt, List.map_cons, List.map_cons, List.sum_cons]
            simp only [Rows.uptoBulkAll]
            have : len - (k + 1) + 1 = len - k := by omega
            rw [this]
            omega
      obtain ⟨l, h1, h2, h3, h4⟩ := key len (Nat.le_refl _)
      rw [Nat.sub_self, Nat.zero_mul, Nat.add_zero] at h3
      rw [Nat.sub_self, List.drop_zero] at h4
      refine ⟨l, .cons ?_ .nil, ?_⟩
      · show Rep (startG W) (.sl (l.map c.enc)) _
        by_cases h0 : len = 0
        · have : l = [] := List.eq_nil_of_length_eq_zero (by omega)
          subst this h0
          exact .sl0 (some a) cap (fun e => by cases e)
        · have hs := (h2 (by omega)).resolve_right (by omega)
          have ea : a = ⟨a.block, a.off, none⟩ := by cases a; simp_all
          have hlen : (l.map c.enc).length = len := by simp [h1]
          rw [ea, ← hlen]
          exact .sl (by omega) h3
      · simp only [Rows.uptoBulk, zL]
        omega
  top := fun hv h => by
    obtain ⟨a, len, cap, rfl⟩ := WideShapes.okWide_slice ht hv
    cases h with
    | cons h _ => exact h
  size := fun a => by rw [hc]; rfl

/-- the fields of a struct, from one on -/
def ReadsF (P : Program) (tot off : Nat) (fs : List Field) {T : Type} (f : T → List AV) (z : T → Nat) : Prop :=
  ∀ {H : Type} {enc : TypeId × Value → H} {W : World} {base : Nat} {sp : Nat → Bool} {n : Nat} {cs : List Value} {xs : List (DataW H × List MemPlace)}, cs.length = tot → xs.length = fs.length →
    (∀ (i : Nat) (g : Field), fs[i]? = some g → DataW.trod enc P W base sp true n g.type ((cs.drop g.offset).take (P.cellsOf g.type)) = xs[i]?) → ∃ a : T, RepL (startG W) (f a) (cs.drop off) ∧ z a ≤ Rows.uptoBulkAll (xs.map (·.1))
theorem readsF_nil {P : Program} {tot : Nat} : ReadsF P tot tot [] (fun _ : Unit => []) (fun _ => 0) := by
  intro H enc W base sp n cs xs h1 _ _
  refine ⟨(), ?_, Nat.zero_le _⟩
  rw [← h1, List.drop_length]
  exact .nil
theorem readsF_cons {P : Program} {tot off off' : Nat} {g : Field} {fs : List Field} {α T : Type} {c : Cod α} {zc : α → Nat} {f : T → List AV} {z : T → Nat} (h : Reads P g.type c zc) (ho : g.offset = off) (ho' : off + P.cellsOf g.type = off') (r : ReadsF P tot off' fs f z) :
    ReadsF P tot off (g :: fs) (fun x : α × T => (c.enc x.1).cells ++ f x.2) (fun x => zc x.1 + z x.2) := by
  intro H enc W base sp n cs xs h1 h2 h3
  cases xs with
  | nil => simp at h2
  | cons y ys =>
    have h0 := h3 0 g rfl
    simp only [List.getElem?_cons_zero] at h0
    obtain ⟨a, ha, hza⟩ := h.read h0
    obtain ⟨b, hb, hzb⟩ := r h1 (by simpa using h2) (fun i g' hg => by have := h3 (i + 1) g' (by simpa using hg); simpa using this)
    refine ⟨(a, b), ?_, ?_⟩
    · have := repL_append ha hb
      rw [ho, ← ho', ← List.drop_drop, List.take_append_drop] at this
      exact this
    · simp only [List.map_cons, Rows.uptoBulkAll]
      omega
theorem reads_struct {P : Program} {t : TypeId} {fs : Array Field} {α T : Type} {c : Cod α} {f : T → List AV} {z : T → Nat} (mk : T → α) (zc : α → Nat) (ht : P.underlying t = some (.struct fs)) (r : ReadsF P (P.cellsOf t) 0 fs.toList f z) (hf : ∀ x, c.enc (mk x) = .agg (f x)) (hz : ∀ x, zc (mk x) = z x + 1)
    (hagg : ∀ a, (c.enc a).isAgg = true) (hs : ∀ a, (c.enc a).cells.length = P.cellsOf t) : Reads P t c zc where
  read := fun {H} {enc} {W} {base} {sp} {n} {cs} {x} h => by
    obtain ⟨xs, m, rfl, rfl, hl, hxl, hfs⟩ := DataW.trod_struct ht h
    obtain ⟨a, ha, hza⟩ := r hl (by simpa using hxl) (fun i g hg => hfs i g (by simpa using hg))
    refine ⟨mk a, ?_, ?_⟩
    · rw [hf]; exact ha
    · rw [hz]; simp only [Rows.uptoBulk]; omega
  top := fun {W} {W'} {r} {b} {a} {v} hv h => by
    obtain ⟨cs, rfl, _⟩ := WideShapes.okWide_struct ht hv
    have := hagg a
    generalize c.enc a = q at *
    cases q with
    | agg xs => exact .agg h
    | _ => simp at this
  size := hs

theorem zL_len {α : Type} {z : α → Nat} (h : ∀ a, 1 ≤ z a) (l : List α) : l.length + 1 ≤ zL z l := by
  unfold zL
  induction l with
  | nil => simp
  | cons a l ih => have := h a; simp at ih ⊢; omega
theorem zL_mem {α : Type} {z : α → Nat} {a : α} : ∀ {l : List α}, a ∈ l → z a + 1 ≤ zL z l
  | b :: l, h => by
    unfold zL
    rcases List.mem_cons.1 h with rfl | h
    · simp
    · have := zL_mem (z := z) h; unfold zL at this; simp; omega
end Go.Proofs.YtgpkochbmfhmdaaGreatDoor.Lift
namespace Go.Proofs.YtgpkochbmfhmdaaGreatDoor.Lift
open Go
set_option maxRecDepth 100000

theorem rd_int : Reads Tryz.prog 3 cInt (fun _ => 1) := reads_int Tryz.underlying3 (by kernel_rfl)
theorem rd_str : Reads Tryz.prog 9 cStr (fun s => s.length + 1) := reads_str Tryz.underlying9 (by kernel_rfl)
theorem rd_bool : Reads Tryz.prog 4 cBool (fun _ => 1) := reads_bool Tryz.underlying4 (by kernel_rfl)

def zTy (x : ATy) : Nat := 1 + (x.name.length + 1) + 1
theorem rd_Ty : Reads Tryz.prog 48 cTy zTy :=
  reads_struct (fun x : Int × Str × Unit => ⟨x.1, x.2.1⟩) zTy Tryz.underlying48
    (readsF_cons rd_int rfl (off' := 1) (by kernel_rfl) (readsF_cons rd_str rfl (by kernel_rfl) readsF_nil)) (fun _ => rfl) (fun _ => by simp [zTy]) (fun _ => rfl) (fun _ => by show 2 = _; kernel_rfl)
theorem rd_Tys : Reads Tryz.prog 135 (cL cTy) (zL zTy) := reads_slice Tryz.underlying135 rd_Ty (by kernel_rfl) (by kernel_rfl)
theorem zTy_pos (x : ATy) : 1 ≤ zTy x := by unfold zTy; omega
end Go.Proofs.YtgpkochbmfhmdaaGreatDoor.Lift
namespace Go.Proofs.YtgpkochbmfhmdaaGreatDoor.Lift
open Go
set_option maxRecDepth 100000

def zVal (x : AVal) : Nat := 1 + 1 + 1
theorem zVal_pos (x : AVal) : 1 ≤ zVal x := by unfold zVal; omega
theorem rd_Val : Reads Tryz.prog 63 cVal zVal :=
  reads_struct (fun x : Int × Int × Unit => ⟨x.1, x.2.1⟩) zVal Tryz.underlying63
    (readsF_cons rd_int rfl (off' := 1) (by kernel_rfl) (readsF_cons rd_int rfl (by kernel_rfl) readsF_nil)) (fun _ => rfl) (fun _ => by simp [zVal]) (fun _ => rfl) (fun _ => by show 2 = _; kernel_rfl)
theorem rd_Vals : Reads Tryz.prog 55 (cL cVal) (zL zVal) := reads_slice Tryz.underlying55 rd_Val (by kernel_rfl) (by kernel_rfl)
def zCallF (x : ACallF) : Nat := 1 + (1 + (1 + (zL zVal x.locals + (zL zVal x.stack + 1)))) + 1
theorem rd_CallF : Reads Tryz.prog 59 cCallF zCallF :=
  reads_struct (fun x : Int × Int × Int × List AVal × List AVal × Int × Unit => ⟨x.1, x.2.1, x.2.2.1, x.2.2.2.1, x.2.2.2.2.1, x.2.2.2.2.2.1⟩) zCallF Tryz.underlying59
    (readsF_cons rd_int rfl (off' := 1) (by kernel_rfl) (readsF_cons rd_int rfl (off' := 2) (by kernel_rfl) (readsF_cons rd_int rfl (off' := 3) (by kernel_rfl) (readsF_cons rd_Vals rfl (off' := 4) (by kernel_rfl) (readsF_cons rd_Vals rfl (off' := 5) (by kernel_rfl) (readsF_cons rd_int rfl (by kernel_rfl) readsF_nil)))))) (fun _ => rfl) (fun _ => by simp [zCallF]) (fun _ => rfl) (fun _ => by show 6 = _; kernel_rfl)
end Go.Proofs.YtgpkochbmfhmdaaGreatDoor.Lift
namespace Go.Proofs.YtgpkochbmfhmdaaGreatDoor.Lift
open Go
set_option maxRecDepth 100000

section
variable {H : Type} {enc : TypeId × Value → H} {P : Program} {w : World} {base : Nat} {sp : Nat → Bool} {held : Bool}
theorem cut_cells {c : Nat} : ∀ (n : Nat) (cs : List Value), cs.length = n * c → cs = ((List.range n).map fun i => (cs.drop (i * c)).take c).flatten
  | 0, cs, h => by
    have : cs = [] := List.eq_nil_of_length_eq_zero (by omega)
    subst this; rfl
  | n + 1, cs, h => by
    rw [Nat.succ_mul] at h
    have ih := cut_cells (c := c) n (cs.drop c) (by rw [List.length_drop]; omega)
    rw [List.range_succ_eq_map, List.map_cons, List.flatten_cons, List.map_map]
    have e : ((List.range n).map ((fun i => (cs.drop (i * c)).take c) ∘ Nat.succ)) = (List.range n).map fun i => ((cs.drop c).drop (i * c)).take c := List.map_congr_left fun i _ => by
      simp only [Function.comp, List.drop_drop, Nat.succ_mul]
      rw [Nat.add_comm]
    rw [e, ← ih]
    simp
theorem cells_of_arr {fuel : Nat} {t e : TypeId} {n : Nat} {cs : List Value} {ds : List (DataW H)} {p : List MemPlace} (F : DataW H → List Value) (ht : P.underlying t = some (.array n e)) (hct : P.cellsOf t = n * P.cellsOf e)
    (hF : ∀ (fuel : Nat) (cs' : List Value) (d : DataW H) (p : List MemPlace), DataW.trod enc P w base sp held fuel e cs' = some (d, p) → cs' = F d)
    (h : DataW.trod enc P w base sp held fuel t cs = some (.agg ds, p)) : cs = ds.flatMap F := by
  cases fuel with
  | zero => simp [DataW.trod] at h
  | succ fuel =>
    simp only [DataW.trod, ht] at h
    split at h
    · rename_i hl
      obtain ⟨xs, hm, hx⟩ := Option.map_eq_some_iff.1 h
      have hxs : xs.map (·.1) = ds := by
        have := congrArg Prod.fst hx
        simpa using this
      have hxl : xs.length = n := by simpa using Lib.mapM_length hm
      rw [cut_cells n cs (hl.trans hct), List.flatMap_def]
      congr 1
      apply List.ext_getElem?
      intro i
      by_cases hi : i < n
      · obtain ⟨b, hb, hf⟩ := Lib.mapM_at hm i i (by simp [hi])
        have h1 := hF fuel _ b.1 b.2 hf
        rw [← hxs]
        simp only [List.getElem?_map, hb, Option.map_some, List.getElem?_range hi]
        rw [← h1]
      · rw [List.getElem?_eq_none (by simp; omega), List.getElem?_eq_none (by rw [← hxs]; simp; omega)]
    · cases h
def F0 : DataW H → List Value
  | .lit (.int k z) => [.int k z]
  | .lit (.string s) => [.string ⟨s.toArray⟩]
  | _ => []
def F1 : DataW H → List Value
  | .agg ds => ds.flatMap F0
  | _ => []
theorem F0_str {e : TypeId} (he : P.underlying e = some .string) (fuel : Nat) (cs' : List Value) (d : DataW H) (p : List MemPlace) (h : DataW.trod enc P w base sp held fuel e cs' = some (d, p)) : cs' = F0 d := by
  obtain ⟨s, rfl, hx, _⟩ := DataW.trod_string he h
  cases hx
  simp [F0]
theorem F0_int {e : TypeId} {k : IntKind} (he : P.underlying e = some (.int k)) (fuel : Nat) (cs' : List Value) (d : DataW H) (p : List MemPlace) (h : DataW.trod enc P w base sp held fuel e cs' = some (d, p)) : cs' = F0 d := by
  obtain ⟨n, rfl, hx, _⟩ := DataW.trod_int he h
  cases hx
  rfl
theorem F1_arr {t e : TypeId} {n : Nat} (ht : P.underlying t = some (.array n e)) (he : P.underlying e = some .string) (hct : P.cellsOf t = n * P.cellsOf e) (fuel : Nat) (cs' : List Value) (d : DataW H) (p : List MemPlace) (h : DataW.trod enc P w base sp held fuel t cs' = some (d, p)) : cs' = F1 d := by
  have h' := h
  cases fuel with
  | zero => simp [DataW.trod] at h
  | succ fuel =>
    simp only [DataW.trod, ht] at h
    split at h
    · obtain ⟨xs, hm, hx⟩ := Option.map_eq_some_iff.1 h
      cases hx
      exact cells_of_arr F0 ht hct (F0_str he) h'
    · cases h
end
/-- what a variable of the list reads as -/
theorem laid_get {P : Program} {w : World} {n : String} {d : DataW Unit} : ∀ {l : List (String × DataW Unit)} {ps : List MemPlace}, DataW.LaidVars P w l ps → (n, d) ∈ l →
    ∃ g t cs fuel p, P.globalNamed n = some g ∧ (P.globals[g]?).map (·.type) = some t ∧ w.var? P n = some cs ∧ DataW.trod (fun _ => ()) P w 0 (fun _ => true) false fuel t cs.toList = some (d, p)
  | [], _, _, hm => by cases hm
  | (n', d') :: r, ps, h, hm => by
    obtain ⟨g, t, cs, fuel, p, q, h1, h2, h3, h4, h5, _⟩ := h
    rcases List.mem_cons.1 hm with e | hm
    · cases e
      exact ⟨g, t, cs, fuel, p, h1, h2, h3, h4⟩
    · exact laid_get h5 hm
/-- values of one cell -/
def one1 : Value → Bool
  | .int .. | .string _ => true
  | _ => false
theorem rep_one {G : Gh} {v : Value} (h : one1 v = true) : Rep G (ofConst v) v := by
  cases v <;> first | (cases h; done) | skip
  · exact .int _ _
  · exact .str _
theorem rep_cells {W : World} {g : Nat} {cs : Array Value} {t : TypeId} {fz : Nat × Nat} (h : W.heap[g]? = some (.cells cs t fz)) (hall : cs.toList.all one1 = true) : Rep (startG W) (.rp (.agg (cs.toList.map ofConst)) 0) (.pointer (some ⟨g, 0, none⟩)) := by
  have : RepCells (startG W) (cs.toList.map ofConst) g 0 := RepCells.of_get fun i x hx => by
    rw [List.getElem?_map] at hx
    obtain ⟨v, hv, rfl⟩ := Option.map_eq_some_iff.1 hx
    refine ⟨v, ?_, ?_, rep_one (List.all_eq_true.1 hall v (List.mem_of_getElem? hv))⟩
    · exact (Array.getElem?_eq_some_iff.1 h).1
    · rw [Nat.zero_add]
      unfold World.cell?
      simp only [startG, h]
      simpa using hv
  exact Rep.rp (x := .agg (cs.toList.map ofConst)) (off := 0) this
/-- a variable's cells, and how they lie -/
theorem glob_of {P : Program} {W : World} {laid : List (String × DataW Unit)} (h : laidMet P laid W) {name : String} {ds : List (DataW Unit)} (hm : (name, .agg ds) ∈ laid) {g : Nat} {t : TypeId} (hg : P.globalNamed name = some g) (hty : (P.globals[g]?).map (·.type) = some t)
    (F : DataW Unit → List Value) (hF : ∀ (fuel : Nat) (cs : List Value) (p : List MemPlace), DataW.trod (fun _ => ()) P W 0 (fun _ => true) false fuel t cs = some (.agg ds, p) → cs = ds.flatMap F) {v : AV} (hv : v = .agg ((ds.flatMap F).map ofConst)) (hall : (ds.flatMap F).all one1 = true) :
    Rep (startG W) (.rp v 0) (.pointer (some ⟨g, 0, none⟩)) := by
  obtain ⟨ps, hl, _⟩ := h
  obtain ⟨g', t', cs, fuel, p, h1, h2, h3, h4⟩ := laid_get hl hm
  obtain rfl := Option.some.inj (hg.symm.trans h1)
  obtain rfl := Option.some.inj (hty.symm.trans h2)
  have hc := hF fuel cs.toList p h4
  unfold World.var? at h3
  rw [hg] at h3
  simp only [Option.bind_some] at h3
  split at h3
  · rename_i cs' t' fz hb
    cases h3
    subst hv
    rw [← hc]
    exact rep_cells hb (by rw [hc]; exact hall)
  · cases h3
end Go.Proofs.YtgpkochbmfhmdaaGreatDoor.Lift
