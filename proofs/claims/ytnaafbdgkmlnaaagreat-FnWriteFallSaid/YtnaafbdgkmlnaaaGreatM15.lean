/- Laws about the machine's run of the program's functions, part 15, in import order. No condition. -/
import Derived.Test.YtnaafbdgkmlnaaaGreatM12
import Derived.Test.YtnaafbdgkmlnaaaGreatM13
import Derived.Test.YtnaafbdgkmlnaaaGreatM14

set_option linter.unusedVariables false
set_option linter.unusedSimpArgs false
set_option linter.unnecessarySimpa false
/- The table of known calls. (Printed by wip/mk.py, wip/tab.py.) -/
namespace Go.Proofs.YtnaafbdgkmlnaaaGreat
set_option linter.unusedVariables false
set_option linter.unusedSimpArgs false
set_option maxRecDepth 20000
set_option maxHeartbeats 2000000

noncomputable def an_M4 (f : FuncId) (args : List AV) : Option AV :=
  if f = 64 then anIn (fun n lo hi => some (.bool (decide (In n lo hi)))) args else
  if f = 68 then anIn (fun n lo hi => some (.bool (decide (In n lo hi)))) args else
  if f = 112 then anI (fun n => some (.bool (decide (In n 0 4)))) args else
  if f = 195 then anI (fun n => some (.bool (decide (In n 1 3)))) args else
  if f = 163 then anI (fun n => some (.bool (decide (Changes n)))) args else
  if f = 134 then anR (fun r => some (.bool (decide (Ends r)))) args else
  if f = 143 then anR (fun r => some (.bool (decide (Changes r.kind)))) args else
  if f = 119 then anR (fun r => some (.bool true)) args else
  if f = 193 then anR (fun r => some (.bool (decide (r.kind = 3)))) args else
  if f = 155 then anRI (fun r n => some (.agg (encR (backR r n)))) args else
  if f = 166 then anRI (fun r n => some (.agg (encR (backR r n)))) args else
  if f = 203 then anR (fun r => some (.bool (decide (OfOk r)))) args else
  if f = 133 then anR (fun r => some (.bool (decide (RecOkP r)))) args else
  if f = 162 then anR (fun r => some (.bool (decide (RecOkP r)))) args else
  if f = 209 then anI (fun n => some (.bool (!decide (In n 0 9)))) args else
  if f = 213 then anI (fun n => some (.bool (!decide (n = 0)))) args else
  if f = 200 then anV (fun V => if V.length ≤ 1000000 then some (.bool (decide (AllZ V))) else none) args else
  if f = 188 then anV (fun V => if V.length ≤ 1000000 then some (.bool (decide (ValsOk V))) else none) args else
  none
theorem an_M4_ok : ∀ f args v, an_M4 f args = some v → Told f args [] [] 0 v := by
  intro f args v h
  delta an_M4 at h
  rcases ite_or h with ⟨e, h⟩ | ⟨_, h⟩; · subst e; obtain ⟨_, _, _, rfl, h1⟩ := anIn_inv h; cases h1; exact c64 _ _ _
  rcases ite_or h with ⟨e, h⟩ | ⟨_, h⟩; · subst e; obtain ⟨_, _, _, rfl, h1⟩ := anIn_inv h; cases h1; exact c68 _ _ _
  rcases ite_or h with ⟨e, h⟩ | ⟨_, h⟩; · subst e; obtain ⟨_, rfl, h1⟩ := anI_inv h; cases h1; exact c112 _
  rcases ite_or h with ⟨e, h⟩ | ⟨_, h⟩; · subst e; obtain ⟨_, rfl, h1⟩ := anI_inv h; cases h1; exact c195 _
  rcases ite_or h with ⟨e, h⟩ | ⟨_, h⟩; · subst e; obtain ⟨_, rfl, h1⟩ := anI_inv h; cases h1; exact c163 _
  rcases ite_or h with ⟨e, h⟩ | ⟨_, h⟩; · subst e; obtain ⟨_, rfl, h1⟩ := anR_inv h; cases h1; exact c134 _
  rcases ite_or h with ⟨e, h⟩ | ⟨_, h⟩; · subst e; obtain ⟨_, rfl, h1⟩ := anR_inv h; cases h1; exact c143 _
  rcases ite_or h with ⟨e, h⟩ | ⟨_, h⟩; · subst e; obtain ⟨_, rfl, h1⟩ := anR_inv h; cases h1; exact c119 _
  rcases ite_or h with ⟨e, h⟩ | ⟨_, h⟩; · subst e; obtain ⟨_, rfl, h1⟩ := anR_inv h; cases h1; exact c193 _
  rcases ite_or h with ⟨e, h⟩ | ⟨_, h⟩; · subst e; obtain ⟨_, _, rfl, h1⟩ := anRI_inv h; cases h1; exact c155 _ _
  rcases ite_or h with ⟨e, h⟩ | ⟨_, h⟩; · subst e; obtain ⟨_, _, rfl, h1⟩ := anRI_inv h; cases h1; exact c166 _ _
  rcases ite_or h with ⟨e, h⟩ | ⟨_, h⟩; · subst e; obtain ⟨_, rfl, h1⟩ := anR_inv h; cases h1; exact c203 _
  rcases ite_or h with ⟨e, h⟩ | ⟨_, h⟩; · subst e; obtain ⟨_, rfl, h1⟩ := anR_inv h; cases h1; exact c133 _
  rcases ite_or h with ⟨e, h⟩ | ⟨_, h⟩; · subst e; obtain ⟨_, rfl, h1⟩ := anR_inv h; cases h1; exact c162 _
  rcases ite_or h with ⟨e, h⟩ | ⟨_, h⟩; · subst e; obtain ⟨_, rfl, h1⟩ := anI_inv h; cases h1; exact c209 _
  rcases ite_or h with ⟨e, h⟩ | ⟨_, h⟩; · subst e; obtain ⟨_, rfl, h1⟩ := anI_inv h; cases h1; exact c213 _
  rcases ite_or h with ⟨e, h⟩ | ⟨_, h⟩; · subst e; obtain ⟨V, rfl, h1⟩ := anV_inv h; have h2 : (if V.length ≤ 1000000 then some (.bool (decide (AllZ V))) else none) = some v := h1; rcases ite_or h2 with ⟨hp, h3⟩ | ⟨_, h3⟩ <;> cases h3; exact c200 _ hp
  rcases ite_or h with ⟨e, h⟩ | ⟨_, h⟩; · subst e; obtain ⟨V, rfl, h1⟩ := anV_inv h; have h2 : (if V.length ≤ 1000000 then some (.bool (decide (ValsOk V))) else none) = some v := h1; rcases ite_or h2 with ⟨hp, h3⟩ | ⟨_, h3⟩ <;> cases h3; exact c188 _ hp
  cases h
noncomputable def M4 : Cfg := ⟨fun _ => false, an_M4, an_M4_ok⟩
@[simp] theorem M4_mu (d : Nat) : M4.mu d = false := rfl
@[simp] theorem M4_64 (xs : List AV) : M4.an 64 xs = anIn (fun n lo hi => some (.bool (decide (In n lo hi)))) xs := rfl
@[simp] theorem M4_68 (xs : List AV) : M4.an 68 xs = anIn (fun n lo hi => some (.bool (decide (In n lo hi)))) xs := rfl
@[simp] theorem M4_112 (xs : List AV) : M4.an 112 xs = anI (fun n => some (.bool (decide (In n 0 4)))) xs := rfl
@[simp] theorem M4_195 (xs : List AV) : M4.an 195 xs = anI (fun n => some (.bool (decide (In n 1 3)))) xs := rfl
@[simp] theorem M4_163 (xs : List AV) : M4.an 163 xs = anI (fun n => some (.bool (decide (Changes n)))) xs := rfl
@[simp] theorem M4_134 (xs : List AV) : M4.an 134 xs = anR (fun r => some (.bool (decide (Ends r)))) xs := rfl
@[simp] theorem M4_143 (xs : List AV) : M4.an 143 xs = anR (fun r => some (.bool (decide (Changes r.kind)))) xs := rfl
@[simp] theorem M4_119 (xs : List AV) : M4.an 119 xs = anR (fun r => some (.bool true)) xs := rfl
@[simp] theorem M4_193 (xs : List AV) : M4.an 193 xs = anR (fun r => some (.bool (decide (r.kind = 3)))) xs := rfl
@[simp] theorem M4_155 (xs : List AV) : M4.an 155 xs = anRI (fun r n => some (.agg (encR (backR r n)))) xs := rfl
@[simp] theorem M4_166 (xs : List AV) : M4.an 166 xs = anRI (fun r n => some (.agg (encR (backR r n)))) xs := rfl
@[simp] theorem M4_203 (xs : List AV) : M4.an 203 xs = anR (fun r => some (.bool (decide (OfOk r)))) xs := rfl
@[simp] theorem M4_133 (xs : List AV) : M4.an 133 xs = anR (fun r => some (.bool (decide (RecOkP r)))) xs := rfl
@[simp] theorem M4_162 (xs : List AV) : M4.an 162 xs = anR (fun r => some (.bool (decide (RecOkP r)))) xs := rfl
@[simp] theorem M4_209 (xs : List AV) : M4.an 209 xs = anI (fun n => some (.bool (!decide (In n 0 9)))) xs := rfl
@[simp] theorem M4_213 (xs : List AV) : M4.an 213 xs = anI (fun n => some (.bool (!decide (n = 0)))) xs := rfl
@[simp] theorem M4_200 (xs : List AV) : M4.an 200 xs = anV (fun V => if V.length ≤ 1000000 then some (.bool (decide (AllZ V))) else none) xs := rfl
@[simp] theorem M4_188 (xs : List AV) : M4.an 188 xs = anV (fun V => if V.length ≤ 1000000 then some (.bool (decide (ValsOk V))) else none) xs := rfl
@[simp] theorem M4_3 (xs : List AV) : M4.an 3 xs = none := rfl
@[simp] theorem M4_4 (xs : List AV) : M4.an 4 xs = none := rfl
@[simp] theorem M4_5 (xs : List AV) : M4.an 5 xs = none := rfl
@[simp] theorem M4_6 (xs : List AV) : M4.an 6 xs = none := rfl
@[simp] theorem M4_7 (xs : List AV) : M4.an 7 xs = none := rfl
@[simp] theorem M4_8 (xs : List AV) : M4.an 8 xs = none := rfl
@[simp] theorem M4_9 (xs : List AV) : M4.an 9 xs = none := rfl
@[simp] theorem M4_10 (xs : List AV) : M4.an 10 xs = none := rfl
@[simp] theorem M4_11 (xs : List AV) : M4.an 11 xs = none := rfl
@[simp] theorem M4_12 (xs : List AV) : M4.an 12 xs = none := rfl
@[simp] theorem M4_13 (xs : List AV) : M4.an 13 xs = none := rfl
@[simp] theorem M4_14 (xs : List AV) : M4.an 14 xs = none := rfl
@[simp] theorem M4_15 (xs : List AV) : M4.an 15 xs = none := rfl
@[simp] theorem M4_16 (xs : List AV) : M4.an 16 xs = none := rfl
@[simp] theorem M4_17 (xs : List AV) : M4.an 17 xs = none := rfl
@[simp] theorem M4_18 (xs : List AV) : M4.an 18 xs = none := rfl
@[simp] theorem M4_19 (xs : List AV) : M4.an 19 xs = none := rfl
@[simp] theorem M4_20 (xs : List AV) : M4.an 20 xs = none := rfl
@[simp] theorem M4_21 (xs : List AV) : M4.an 21 xs = none := rfl
@[simp] theorem M4_22 (xs : List AV) : M4.an 22 xs = none := rfl
@[simp] theorem M4_23 (xs : List AV) : M4.an 23 xs = none := rfl
@[simp] theorem M4_24 (xs : List AV) : M4.an 24 xs = none := rfl
@[simp] theorem M4_25 (xs : List AV) : M4.an 25 xs = none := rfl
@[simp] theorem M4_26 (xs : List AV) : M4.an 26 xs = none := rfl
@[simp] theorem M4_27 (xs : List AV) : M4.an 27 xs = none := rfl
@[simp] theorem M4_28 (xs : List AV) : M4.an 28 xs = none := rfl
@[simp] theorem M4_29 (xs : List AV) : M4.an 29 xs = none := rfl
@[simp] theorem M4_30 (xs : List AV) : M4.an 30 xs = none := rfl
@[simp] theorem M4_31 (xs : List AV) : M4.an 31 xs = none := rfl
@[simp] theorem M4_32 (xs : List AV) : M4.an 32 xs = none := rfl
@[simp] theorem M4_33 (xs : List AV) : M4.an 33 xs = none := rfl
@[simp] theorem M4_34 (xs : List AV) : M4.an 34 xs = none := rfl
@[simp] theorem M4_35 (xs : List AV) : M4.an 35 xs = none := rfl
@[simp] theorem M4_36 (xs : List AV) : M4.an 36 xs = none := rfl
@[simp] theorem M4_37 (xs : List AV) : M4.an 37 xs = none := rfl
@[simp] theorem M4_38 (xs : List AV) : M4.an 38 xs = none := rfl
@[simp] theorem M4_39 (xs : List AV) : M4.an 39 xs = none := rfl
@[simp] theorem M4_40 (xs : List AV) : M4.an 40 xs = none := rfl
@[simp] theorem M4_41 (xs : List AV) : M4.an 41 xs = none := rfl
@[simp] theorem M4_42 (xs : List AV) : M4.an 42 xs = none := rfl
@[simp] theorem M4_43 (xs : List AV) : M4.an 43 xs = none := rfl
@[simp] theorem M4_44 (xs : List AV) : M4.an 44 xs = none := rfl
@[simp] theorem M4_45 (xs : List AV) : M4.an 45 xs = none := rfl
@[simp] theorem M4_46 (xs : List AV) : M4.an 46 xs = none := rfl
@[simp] theorem M4_47 (xs : List AV) : M4.an 47 xs = none := rfl
@[simp] theorem M4_48 (xs : List AV) : M4.an 48 xs = none := rfl
@[simp] theorem M4_49 (xs : List AV) : M4.an 49 xs = none := rfl
@[simp] theorem M4_50 (xs : List AV) : M4.an 50 xs = none := rfl
@[simp] theorem M4_51 (xs : List AV) : M4.an 51 xs = none := rfl
@[simp] theorem M4_52 (xs : List AV) : M4.an 52 xs = none := rfl
@[simp] theorem M4_53 (xs : List AV) : M4.an 53 xs = none := rfl
@[simp] theorem M4_54 (xs : List AV) : M4.an 54 xs = none := rfl
@[simp] theorem M4_55 (xs : List AV) : M4.an 55 xs = none := rfl
@[simp] theorem M4_56 (xs : List AV) : M4.an 56 xs = none := rfl
@[simp] theorem M4_57 (xs : List AV) : M4.an 57 xs = none := rfl
@[simp] theorem M4_58 (xs : List AV) : M4.an 58 xs = none := rfl
@[simp] theorem M4_59 (xs : List AV) : M4.an 59 xs = none := rfl
@[simp] theorem M4_60 (xs : List AV) : M4.an 60 xs = none := rfl
@[simp] theorem M4_61 (xs : List AV) : M4.an 61 xs = none := rfl
@[simp] theorem M4_62 (xs : List AV) : M4.an 62 xs = none := rfl
@[simp] theorem M4_63 (xs : List AV) : M4.an 63 xs = none := rfl
@[simp] theorem M4_65 (xs : List AV) : M4.an 65 xs = none := rfl
@[simp] theorem M4_66 (xs : List AV) : M4.an 66 xs = none := rfl
@[simp] theorem M4_67 (xs : List AV) : M4.an 67 xs = none := rfl
@[simp] theorem M4_69 (xs : List AV) : M4.an 69 xs = none := rfl
@[simp] theorem M4_70 (xs : List AV) : M4.an 70 xs = none := rfl
@[simp] theorem M4_71 (xs : List AV) : M4.an 71 xs = none := rfl
@[simp] theorem M4_72 (xs : List AV) : M4.an 72 xs = none := rfl
@[simp] theorem M4_73 (xs : List AV) : M4.an 73 xs = none := rfl
@[simp] theorem M4_74 (xs : List AV) : M4.an 74 xs = none := rfl
@[simp] theorem M4_75 (xs : List AV) : M4.an 75 xs = none := rfl
@[simp] theorem M4_76 (xs : List AV) : M4.an 76 xs = none := rfl
@[simp] theorem M4_77 (xs : List AV) : M4.an 77 xs = none := rfl
@[simp] theorem M4_78 (xs : List AV) : M4.an 78 xs = none := rfl
@[simp] theorem M4_79 (xs : List AV) : M4.an 79 xs = none := rfl
@[simp] theorem M4_80 (xs : List AV) : M4.an 80 xs = none := rfl
@[simp] theorem M4_81 (xs : List AV) : M4.an 81 xs = none := rfl
@[simp] theorem M4_82 (xs : List AV) : M4.an 82 xs = none := rfl
@[simp] theorem M4_83 (xs : List AV) : M4.an 83 xs = none := rfl
@[simp] theorem M4_84 (xs : List AV) : M4.an 84 xs = none := rfl
@[simp] theorem M4_85 (xs : List AV) : M4.an 85 xs = none := rfl
@[simp] theorem M4_86 (xs : List AV) : M4.an 86 xs = none := rfl
@[simp] theorem M4_87 (xs : List AV) : M4.an 87 xs = none := rfl
@[simp] theorem M4_88 (xs : List AV) : M4.an 88 xs = none := rfl
@[simp] theorem M4_89 (xs : List AV) : M4.an 89 xs = none := rfl
@[simp] theorem M4_90 (xs : List AV) : M4.an 90 xs = none := rfl
@[simp] theorem M4_91 (xs : List AV) : M4.an 91 xs = none := rfl
@[simp] theorem M4_92 (xs : List AV) : M4.an 92 xs = none := rfl
@[simp] theorem M4_93 (xs : List AV) : M4.an 93 xs = none := rfl
@[simp] theorem M4_94 (xs : List AV) : M4.an 94 xs = none := rfl
@[simp] theorem M4_95 (xs : List AV) : M4.an 95 xs = none := rfl
@[simp] theorem M4_96 (xs : List AV) : M4.an 96 xs = none := rfl
@[simp] theorem M4_97 (xs : List AV) : M4.an 97 xs = none := rfl
@[simp] theorem M4_98 (xs : List AV) : M4.an 98 xs = none := rfl
@[simp] theorem M4_99 (xs : List AV) : M4.an 99 xs = none := rfl
@[simp] theorem M4_100 (xs : List AV) : M4.an 100 xs = none := rfl
@[simp] theorem M4_101 (xs : List AV) : M4.an 101 xs = none := rfl
@[simp] theorem M4_102 (xs : List AV) : M4.an 102 xs = none := rfl
@[simp] theorem M4_103 (xs : List AV) : M4.an 103 xs = none := rfl
@[simp] theorem M4_104 (xs : List AV) : M4.an 104 xs = none := rfl
@[simp] theorem M4_105 (xs : List AV) : M4.an 105 xs = none := rfl
@[simp] theorem M4_106 (xs : List AV) : M4.an 106 xs = none := rfl
@[simp] theorem M4_107 (xs : List AV) : M4.an 107 xs = none := rfl
@[simp] theorem M4_108 (xs : List AV) : M4.an 108 xs = none := rfl
@[simp] theorem M4_109 (xs : List AV) : M4.an 109 xs = none := rfl
@[simp] theorem M4_110 (xs : List AV) : M4.an 110 xs = none := rfl
@[simp] theorem M4_111 (xs : List AV) : M4.an 111 xs = none := rfl
@[simp] theorem M4_113 (xs : List AV) : M4.an 113 xs = none := rfl
@[simp] theorem M4_114 (xs : List AV) : M4.an 114 xs = none := rfl
@[simp] theorem M4_115 (xs : List AV) : M4.an 115 xs = none := rfl
@[simp] theorem M4_116 (xs : List AV) : M4.an 116 xs = none := rfl
@[simp] theorem M4_117 (xs : List AV) : M4.an 117 xs = none := rfl
@[simp] theorem M4_118 (xs : List AV) : M4.an 118 xs = none := rfl
@[simp] theorem M4_120 (xs : List AV) : M4.an 120 xs = none := rfl
@[simp] theorem M4_121 (xs : List AV) : M4.an 121 xs = none := rfl
@[simp] theorem M4_122 (xs : List AV) : M4.an 122 xs = none := rfl
@[simp] theorem M4_123 (xs : List AV) : M4.an 123 xs = none := rfl
@[simp] theorem M4_124 (xs : List AV) : M4.an 124 xs = none := rfl
@[simp] theorem M4_125 (xs : List AV) : M4.an 125 xs = none := rfl
@[simp] theorem M4_126 (xs : List AV) : M4.an 126 xs = none := rfl
@[simp] theorem M4_127 (xs : List AV) : M4.an 127 xs = none := rfl
@[simp] theorem M4_128 (xs : List AV) : M4.an 128 xs = none := rfl
@[simp] theorem M4_129 (xs : List AV) : M4.an 129 xs = none := rfl
@[simp] theorem M4_130 (xs : List AV) : M4.an 130 xs = none := rfl
@[simp] theorem M4_131 (xs : List AV) : M4.an 131 xs = none := rfl
@[simp] theorem M4_132 (xs : List AV) : M4.an 132 xs = none := rfl
@[simp] theorem M4_135 (xs : List AV) : M4.an 135 xs = none := rfl
@[simp] theorem M4_136 (xs : List AV) : M4.an 136 xs = none := rfl
@[simp] theorem M4_137 (xs : List AV) : M4.an 137 xs = none := rfl
@[simp] theorem M4_138 (xs : List AV) : M4.an 138 xs = none := rfl
@[simp] theorem M4_139 (xs : List AV) : M4.an 139 xs = none := rfl
@[simp] theorem M4_140 (xs : List AV) : M4.an 140 xs = none := rfl
@[simp] theorem M4_141 (xs : List AV) : M4.an 141 xs = none := rfl
@[simp] theorem M4_142 (xs : List AV) : M4.an 142 xs = none := rfl
@[simp] theorem M4_144 (xs : List AV) : M4.an 144 xs = none := rfl
@[simp] theorem M4_145 (xs : List AV) : M4.an 145 xs = none := rfl
@[simp] theorem M4_146 (xs : List AV) : M4.an 146 xs = none := rfl
@[simp] theorem M4_147 (xs : List AV) : M4.an 147 xs = none := rfl
@[simp] theorem M4_148 (xs : List AV) : M4.an 148 xs = none := rfl
@[simp] theorem M4_149 (xs : List AV) : M4.an 149 xs = none := rfl
@[simp] theorem M4_150 (xs : List AV) : M4.an 150 xs = none := rfl
@[simp] theorem M4_151 (xs : List AV) : M4.an 151 xs = none := rfl
@[simp] theorem M4_152 (xs : List AV) : M4.an 152 xs = none := rfl
@[simp] theorem M4_153 (xs : List AV) : M4.an 153 xs = none := rfl
@[simp] theorem M4_154 (xs : List AV) : M4.an 154 xs = none := rfl
@[simp] theorem M4_156 (xs : List AV) : M4.an 156 xs = none := rfl
@[simp] theorem M4_157 (xs : List AV) : M4.an 157 xs = none := rfl
@[simp] theorem M4_158 (xs : List AV) : M4.an 158 xs = none := rfl
@[simp] theorem M4_159 (xs : List AV) : M4.an 159 xs = none := rfl
@[simp] theorem M4_160 (xs : List AV) : M4.an 160 xs = none := rfl
@[simp] theorem M4_161 (xs : List AV) : M4.an 161 xs = none := rfl
@[simp] theorem M4_164 (xs : List AV) : M4.an 164 xs = none := rfl
@[simp] theorem M4_165 (xs : List AV) : M4.an 165 xs = none := rfl
@[simp] theorem M4_167 (xs : List AV) : M4.an 167 xs = none := rfl
@[simp] theorem M4_168 (xs : List AV) : M4.an 168 xs = none := rfl
@[simp] theorem M4_169 (xs : List AV) : M4.an 169 xs = none := rfl
@[simp] theorem M4_170 (xs : List AV) : M4.an 170 xs = none := rfl
@[simp] theorem M4_171 (xs : List AV) : M4.an 171 xs = none := rfl
@[simp] theorem M4_172 (xs : List AV) : M4.an 172 xs = none := rfl
@[simp] theorem M4_173 (xs : List AV) : M4.an 173 xs = none := rfl
@[simp] theorem M4_174 (xs : List AV) : M4.an 174 xs = none := rfl
@[simp] theorem M4_175 (xs : List AV) : M4.an 175 xs = none := rfl
@[simp] theorem M4_176 (xs : List AV) : M4.an 176 xs = none := rfl
@[simp] theorem M4_177 (xs : List AV) : M4.an 177 xs = none := rfl
@[simp] theorem M4_178 (xs : List AV) : M4.an 178 xs = none := rfl
@[simp] theorem M4_179 (xs : List AV) : M4.an 179 xs = none := rfl
@[simp] theorem M4_180 (xs : List AV) : M4.an 180 xs = none := rfl
@[simp] theorem M4_181 (xs : List AV) : M4.an 181 xs = none := rfl
@[simp] theorem M4_182 (xs : List AV) : M4.an 182 xs = none := rfl
@[simp] theorem M4_183 (xs : List AV) : M4.an 183 xs = none := rfl
@[simp] theorem M4_184 (xs : List AV) : M4.an 184 xs = none := rfl
@[simp] theorem M4_185 (xs : List AV) : M4.an 185 xs = none := rfl
@[simp] theorem M4_186 (xs : List AV) : M4.an 186 xs = none := rfl
@[simp] theorem M4_187 (xs : List AV) : M4.an 187 xs = none := rfl
@[simp] theorem M4_189 (xs : List AV) : M4.an 189 xs = none := rfl
@[simp] theorem M4_190 (xs : List AV) : M4.an 190 xs = none := rfl
@[simp] theorem M4_191 (xs : List AV) : M4.an 191 xs = none := rfl
@[simp] theorem M4_192 (xs : List AV) : M4.an 192 xs = none := rfl
@[simp] theorem M4_194 (xs : List AV) : M4.an 194 xs = none := rfl
@[simp] theorem M4_196 (xs : List AV) : M4.an 196 xs = none := rfl
@[simp] theorem M4_197 (xs : List AV) : M4.an 197 xs = none := rfl
@[simp] theorem M4_198 (xs : List AV) : M4.an 198 xs = none := rfl
@[simp] theorem M4_199 (xs : List AV) : M4.an 199 xs = none := rfl
@[simp] theorem M4_201 (xs : List AV) : M4.an 201 xs = none := rfl
@[simp] theorem M4_202 (xs : List AV) : M4.an 202 xs = none := rfl
@[simp] theorem M4_204 (xs : List AV) : M4.an 204 xs = none := rfl
@[simp] theorem M4_205 (xs : List AV) : M4.an 205 xs = none := rfl
@[simp] theorem M4_206 (xs : List AV) : M4.an 206 xs = none := rfl
@[simp] theorem M4_207 (xs : List AV) : M4.an 207 xs = none := rfl
@[simp] theorem M4_208 (xs : List AV) : M4.an 208 xs = none := rfl
@[simp] theorem M4_210 (xs : List AV) : M4.an 210 xs = none := rfl
@[simp] theorem M4_211 (xs : List AV) : M4.an 211 xs = none := rfl
@[simp] theorem M4_212 (xs : List AV) : M4.an 212 xs = none := rfl
@[simp] theorem M4_214 (xs : List AV) : M4.an 214 xs = none := rfl
@[simp] theorem M4_215 (xs : List AV) : M4.an 215 xs = none := rfl
@[simp] theorem M4_216 (xs : List AV) : M4.an 216 xs = none := rfl
@[simp] theorem M4_217 (xs : List AV) : M4.an 217 xs = none := rfl
@[simp] theorem M4_218 (xs : List AV) : M4.an 218 xs = none := rfl
@[simp] theorem M4_219 (xs : List AV) : M4.an 219 xs = none := rfl
@[simp] theorem M4_220 (xs : List AV) : M4.an 220 xs = none := rfl
@[simp] theorem M4_221 (xs : List AV) : M4.an 221 xs = none := rfl
@[simp] theorem M4_222 (xs : List AV) : M4.an 222 xs = none := rfl
@[simp] theorem M4_223 (xs : List AV) : M4.an 223 xs = none := rfl
@[simp] theorem M4_224 (xs : List AV) : M4.an 224 xs = none := rfl
@[simp] theorem M4_225 (xs : List AV) : M4.an 225 xs = none := rfl
@[simp] theorem M4_226 (xs : List AV) : M4.an 226 xs = none := rfl
@[simp] theorem M4_227 (xs : List AV) : M4.an 227 xs = none := rfl
@[simp] theorem M4_228 (xs : List AV) : M4.an 228 xs = none := rfl
@[simp] theorem M4_229 (xs : List AV) : M4.an 229 xs = none := rfl
@[simp] theorem M4_230 (xs : List AV) : M4.an 230 xs = none := rfl
@[simp] theorem M4_231 (xs : List AV) : M4.an 231 xs = none := rfl

end Go.Proofs.YtnaafbdgkmlnaaaGreat

/- Functions: is a page valid? -/
namespace Go.Proofs.YtnaafbdgkmlnaaaGreat
set_option linter.unusedVariables false
set_option linter.unusedSimpArgs false
set_option linter.unnecessarySimpa false
set_option maxRecDepth 20000
set_option maxHeartbeats 2000000

theorem c141 (p : Pg) (hL : p.vals.length ≤ 1000000) : Told 141 [.agg (encP p)] [] [] 0 (.bool (decide (PageOkP p))) := by
  refine told_of (Keep.nil _) trivial fun B _ => ?_
  refine acallsF M3 Tryz.func141 (by kernel_rfl) fun hlt => ?_
  simp [Tryz.f141, encP, pgRow]
  refine gO (fun h1 => ?_) (fun h1 => ?_) <;> simp at h1 <;> simp [h1]
  · refine gO (fun h2 => ?_) (fun h2 => ?_) <;> simp at h2 <;> simp [h2]
    · refine callw_told (c188 p.vals hL) (Nat.zero_le _) (by simp) ?_
      simp
      refine gO (fun h3 => ?_) (fun h3 => ?_) <;> simp at h3 <;> simp [h3]
      · refine gO (fun h4 => ?_) (fun h4 => ?_) <;> simp at h4 <;> simp [h4]
        · refine callw_told (c200 p.vals hL) (Nat.zero_le _) (by simp) ?_
          simp
          exact ⟨fun h => ⟨h1, h2, h3.1, h3.2, fun _ => h⟩, fun h => h.2.2.2.2 h4⟩
        · exact ⟨h1, h2, h3.1, h3.2, fun h => absurd h h4⟩
      · exact fun h => h3 ⟨h.2.2.1, h.2.2.2.1⟩
    · exact fun h => h2 h.2.1
  · exact fun h => h1 h.1

theorem c178 (p : Pg) (hL : p.vals.length ≤ 1000000) : Told 178 [.agg (encP p)] [] [] 0 (.bool (decide (AllZ p.vals))) := by
  refine told_of (Keep.nil _) trivial fun B _ => ?_
  refine acallsF M4 Tryz.func178 (by kernel_rfl) fun hlt => ?_
  simp [Tryz.f178, encP, pgRow]
  refine aloop_ind (ι := Nat) (fun n => p.vals.length - n) (fun n => n ≤ p.vals.length ∧ ∀ v ∈ p.vals.take n, v = 0) (fun n => [(1, .qe [I64 p.lsn, I64 p.owner, .sl 1 (ints p.vals)]), (3, I64 n)]) (fun _ => Hp.of []) (fun _ => B) 0 ⟨Nat.zero_le _, by simp⟩ (by simp) (by simp) (Nat.le_refl _) ?_
  rintro A n ⟨hn, hi⟩ ih
  refine wpC_sound M4 _ _ _ _ _ (by kernel_rfl) ?_
  simp [cond_dec]
  constructor
  · intro hlt'
    have w1 := w64 ((n : Int) + 1) (by omega) (by omega)
    have e1 : (ints p.vals)[n]? = some [I64 p.vals[n]] := ints_at (List.getElem?_eq_getElem hlt')
    simp [e1]
    refine gC (fun h => ?_) (fun h => ?_) <;> simp at h <;> simp
    · intro e; exact h (e _ (List.getElem_mem hlt'))
    · refine ih (n + 1) _ _ _ (by omega) ⟨hlt', ?_⟩ (by simp [w1]) (by simp) (Nat.le_refl _)
      rw [List.take_add_one, List.getElem?_eq_getElem hlt']
      intro v hv
      rcases List.mem_append.1 hv with hv | hv
      · exact hi v hv
      · simp at hv; omega
  · intro h
    have : n = p.vals.length := by omega
    subst this
    rw [List.take_length] at hi
    exact fun v hv => hi v hv

theorem c164t (p : Pg) (r : R) (n : Int) (h : p.vals.length = 3 ∧ r.slot ≤ 2) : Told 164 [.agg (encP p), .agg (encR r), I64 n] [] [] 0 (.agg (encP (wr p r n))) := c164 p r n h.1 h.2
theorem c144t (p : Pg) (r : R) (h : p.vals.length = 3 ∧ r.slot ≤ 2) : Told 144 [.agg (encP p), .agg (encR r)] [] [] 0 (.agg (encP (wr p r p.lsn))) := c144 p r h.1 h.2

theorem c161 (p : Pg) (hL : p.vals.length ≤ 1000000) : Told 161 [.agg (encP p)] [] [] 0 (.bool (decide (PageOkP p))) := by
  refine told_of (Keep.nil _) trivial fun B _ => ?_
  refine acallsF M3 Tryz.func161 (by kernel_rfl) fun hlt => ?_
  simp [Tryz.f161, encP, pgRow]
  have rest : In p.lsn 0 150 → In p.owner 0 3 → p.vals.length = 3 → ∀ (A : Prop), A → A := fun _ _ _ _ h => h
  refine gO (fun h1 => ?_) (fun h1 => ?_) <;> simp at h1 <;> simp [h1]
  · refine gO (fun h2 => ?_) (fun h2 => ?_) <;> simp at h2 <;> simp [h2]
    · refine gC (fun h3 => ?_) (fun h3 => ?_) <;> simp at h3 <;> simp
      · intro h; have := h.2.2.1; omega
      · have h3' : p.vals.length = 3 := by omega
        refine aloop_ind (ι := Nat) (fun n => p.vals.length - n) (fun n => n ≤ p.vals.length ∧ (∀ v ∈ p.vals.take n, In v 0 9) ∧ (p.owner = 0 → ∀ v ∈ p.vals.take n, v = 0)) (fun n => [(1, .qe [I64 p.lsn, I64 p.owner, .sl 1 (ints p.vals)]), (3, I64 n)]) (fun _ => Hp.of []) (fun _ => B) 0 ⟨Nat.zero_le _, by simp, by simp⟩ (by simp) (by simp) (Nat.le_refl _) ?_
        rintro A n ⟨hn, hi, hz⟩ ih
        refine wpC_sound M3 _ _ _ _ _ (by kernel_rfl) ?_
        simp [cond_dec]
        constructor
        · intro hlt'
          have w1 := w64 ((n : Int) + 1) (by omega) (by omega)
          obtain ⟨v, hv⟩ : ∃ v, p.vals[n]? = some v := ⟨_, List.getElem?_eq_getElem hlt'⟩
          have e1 : (ints p.vals)[n]? = some [I64 v] := ints_at hv
          have hmem := List.mem_of_getElem? hv
          have htk : p.vals.take (n + 1) = p.vals.take n ++ [v] := by rw [List.take_add_one, hv]; rfl
          simp [e1]
          refine gO (fun h4 => ?_) (fun h4 => ?_) <;> simp at h4 <;> simp [h4, e1]
          · refine gO (fun h5 => ?_) (fun h5 => ?_) <;> simp at h5 <;> simp [h5, e1]
            · refine gC (fun h6 => ?_) (fun h6 => ?_) <;> simp at h6 <;> simp [w1]
              · intro h; exact h6 (h.2.2.2.2 h5 v hmem)
              · refine ih (n + 1) _ _ _ (by omega) ⟨hlt', ?_, ?_⟩ (by simp [h5]) (by simp) (Nat.le_refl _)
                · rw [htk]; intro u hu; rcases List.mem_append.1 hu with hu | hu
                  · exact hi u hu
                  · simp at hu; rw [hu]; exact h4
                · intro h; rw [htk]; intro u hu; rcases List.mem_append.1 hu with hu | hu
                  · exact hz h u hu
                  · simp at hu; rw [hu]; exact h6
            · simp [w1]
              refine ih (n + 1) _ _ _ (by omega) ⟨hlt', ?_, ?_⟩ (by simp) (by simp) (Nat.le_refl _)
              · rw [htk]; intro u hu; rcases List.mem_append.1 hu with hu | hu
                · exact hi u hu
                · simp at hu; rw [hu]; exact h4
              · intro h; exact absurd h h5
          · intro h; exact h4 (h.2.2.2.1 v hmem)
        · intro h
          have : n = p.vals.length := by omega
          subst this
          rw [List.take_length] at hi hz
          exact ⟨h1, h2, h3', hi, hz⟩
    · exact fun h => h2 h.2.1
  · exact fun h => h1 h.1

theorem c184 (p : Pg) (hL : p.vals.length ≤ 1000000) : Told 184 [.agg (encP p)] [] [] 0 (.bool (decide (PageOkP p ∧ AllZ p.vals))) := by
  refine told_of (Keep.nil _) trivial fun B _ => ?_
  refine acallsF M0 Tryz.func184 (by kernel_rfl) fun hlt => ?_
  have h141 := c141 p hL
  simp only [encP, pgRow] at h141
  simp [Tryz.f184, encP, pgRow]
  refine callw_told h141 (Nat.zero_le _) (by simp) ?_
  simp
  refine gO (fun h1 => ?_) (fun h1 => ?_) <;> simp at h1 <;> simp [h1]
  refine callw_told (c200 p.vals hL) (Nat.zero_le _) (by simp) ?_
  simp

theorem c85 (p q : Pg) (hL : p.vals.length ≤ 1000000) : Told 85 [.agg (encP p), .agg (encP q)] [] [] 0 (.bool (decide (p = q))) := by
  refine told_of (Keep.nil _) trivial fun B _ => ?_
  refine acallsF M0 Tryz.func85 (by kernel_rfl) fun hlt => ?_
  obtain ⟨pl, po, pv⟩ := p
  obtain ⟨ql, qo, qv⟩ := q
  simp [Tryz.f85, encP, pgRow]
  refine gO (fun h1 => ?_) (fun h1 => ?_) <;> simp at h1 <;> simp [h1]
  refine gO (fun h2 => ?_) (fun h2 => ?_) <;> simp at h2 <;> simp [h2]
  refine callw_told (c145 pv qv hL) (Nat.zero_le _) (by simp) ?_
  simp

def pg0 : Pg := ⟨0, 0, []⟩
/-- RecDo. -/
def recDo (p : Pg) (r : R) (lsn : Int) : Pg × Bool := if PageOkP p ∧ RecOkP r ∧ Changes r.kind ∧ p.lsn < lsn ∧ lsn ≤ 150 ∧ PageOkP (wr p r lsn) then (wr p r lsn, true) else (pg0, false)
theorem wr_len (p : Pg) (r : R) (lsn : Int) (h : p.vals.length = 3) : (wr p r lsn).vals.length = 3 := by
  unfold wr; split
  · simp [h]
  · simp; split <;> simp [h]
theorem c202 (p : Pg) (r : R) (lsn : Int) (hL : p.vals.length ≤ 1000000) : Told 202 [.agg (encP p), .agg (encR r), I64 lsn] [] [] 0 (.tup [.agg (encP (recDo p r lsn).1), .bool (recDo p r lsn).2]) := by
  refine told_fz ⟨lt_page 0 _, trivial, trivial⟩ fun B => ?_
  refine acallsF M3 Tryz.func202 (by kernel_rfl) fun hlt => ?_
  simp [Tryz.f202]
  refine callw_told (c141 p hL) (Nat.zero_le _) (by simp) ?_
  simp
  have no : ¬ (PageOkP p ∧ RecOkP r ∧ Changes r.kind ∧ p.lsn < lsn ∧ lsn ≤ 150 ∧ PageOkP (wr p r lsn)) → ∀ H, Fz allS H (.tup [.agg [.int .i64 0, .int .i64 0, .nils], .bool false]) (.tup [.agg (encP (recDo p r lsn).1), .bool (recDo p r lsn).2]) := fun h H => by
    rw [recDo, if_neg h]
    exact Fz.tup' (.cons (Fz.agg' (.cons (.same _) (.cons (.same _) (.cons (.nils 1) .nil)))) (.cons (.same _) .nil))
  refine gO (fun h1 => ?_) (fun h1 => ?_) <;> simp at h1 <;> simp [h1]
  · refine gO (fun h2 => ?_) (fun h2 => ?_) <;> simp at h2 <;> simp [h2]
    · refine gO (fun h3 => ?_) (fun h3 => ?_) <;> simp at h3 <;> simp [h3]
      · refine gO (fun h4 => ?_) (fun h4 => ?_) <;> simp [-Int.not_le, -Int.not_lt] at h4 <;> simp [h4, encP, pgRow]
        · refine gC (fun h5 => ?_) (fun h5 => ?_) <;> simp [-Int.not_le, -Int.not_lt] at h5 <;> simp
          · exact no (by intro h; exact absurd h.2.2.2.2.1 (by omega)) _
          · have hsl := h2.slot
            have h144 := c144 p r h1.2.2.1 (by omega)
            simp only [encP, pgRow] at h144
            refine callw_told h144 (Nat.zero_le _) (by simp) ?_
            simp
            have e : wr p r lsn = ⟨lsn, (wr p r p.lsn).owner, (wr p r p.lsn).vals⟩ := by unfold wr; split <;> rfl
            have hwl := wr_len p r lsn h1.2.2.1
            have h141 := c141 (wr p r lsn) (by omega)
            rw [e] at h141
            simp only [encP, pgRow] at h141
            refine callw_told h141 (Nat.zero_le _) (by simp) ?_
            simp
            refine gC (fun h6 => ?_) (fun h6 => ?_) <;> simp at h6 <;> simp
            · exact no (by intro h; rw [e] at h; exact h6 h.2.2.2.2.2) _
            · refine Fz.of_eq ?_
              rw [recDo, if_pos ⟨h1, h2, h3, by omega, by omega, by rw [e]; exact h6⟩, e]
        · refine no (by intro h; exact absurd h.2.2.2.1 (by omega)) _
      · exact no (by simp [h3]) _
    · exact no (by simp [h2]) _
  · exact no (by simp [h1]) _

end Go.Proofs.YtnaafbdgkmlnaaaGreat

/- Functions: are pages valid? -/
namespace Go.Proofs.YtnaafbdgkmlnaaaGreat
set_option linter.unusedVariables false
set_option linter.unusedSimpArgs false
set_option linter.unnecessarySimpa false
set_option maxRecDepth 20000
set_option maxHeartbeats 2000000

/-! ### What is lent -/
theorem told_borrow {f : FuncId} {args args' : List AV} {hs : List (Nat × Blk)} {Bm : Nat} {v : AV} (h : Told f args' [] [] 0 v) (ho : Own v) (hk : Keep hs Bm) (hargs : Fz allS (Hp.of hs) (.tup args) (.tup args')) (hv : AV.lt Bm v) : Told f args hs hs Bm v := by
  refine told_of hk hv fun B _ => ?_
  have h1 : ACalls PP f args' Hp.nil B (fun v' H' _ => v' = v ∧ H' = Hp.nil) := (h.call B (Nat.zero_le _)).freeze fun v' H' B' hq => by
    refine ⟨fun _ => False, v', Hp.nil, .same _, ?_, ?_⟩
    · intro id k hk; cases hk
    · exact ⟨hq.1, rfl⟩
  refine (h1.borrow hargs fun v1 H1 B1 hq => ?_).mono fun v1 H1 B1 hq => ?_
  · obtain ⟨rfl, rfl⟩ := hq
    exact ⟨ho, fun id k hk => by cases hk⟩
  · obtain ⟨H2, ⟨rfl, rfl⟩, rfl, _⟩ := hq
    exact ⟨rfl, fun id k hk => by simp [Hp.plus, hk]⟩

/-! ### Pages -/
theorem c140 (p : Pg) (hL : p.vals.length ≤ 1000000) : Told 140 [.agg (encP p)] [] [] 0 (.bool (!decide (PageOkP p))) := by
  refine told_of (Keep.nil _) trivial fun B _ => ?_
  refine acallsF M0 Tryz.func140 (by kernel_rfl) fun hlt => ?_
  have h141 := c141 p hL
  simp only [encP, pgRow] at h141
  simp [Tryz.f140, encP, pgRow]
  refine callw_told h141 (Nat.zero_le _) (by simp) ?_
  simp

theorem c199 (S : List Pg) (hs : ShortPs S) : Told 199 [.sl 3 (S.map encP), .fn 140 []] [] [] 0 (I64 (match S.findIdx? (fun p => !decide (PageOkP p)) with | some i => i | none => -1)) := by
  refine told_of (Keep.nil _) trivial fun B _ => ?_
  refine acallsF M0 Tryz.func199 (by kernel_rfl) fun hlt => ?_
  simp [Tryz.f199]
  refine aloop_ind (ι := Nat) (fun n => S.length - n) (fun n => n ≤ S.length ∧ ∀ p ∈ S.take n, PageOkP p) (fun n => [(0, .sl 3 (S.map encP)), (1, .fn 140 []), (7, I64 S.length), (8, I64 n)]) (fun _ => Hp.of []) (fun _ => B) 0 ⟨Nat.zero_le _, by simp⟩ (by simp) (by simp) (Nat.le_refl _) ?_
  rintro A n ⟨hn, hi⟩ ih
  refine wpC_sound M0 _ _ _ _ _ (by kernel_rfl) ?_
  simp [cond_dec]
  constructor
  · intro hlt'
    obtain ⟨p, hp⟩ : ∃ p, S[n]? = some p := ⟨_, List.getElem?_eq_getElem hlt'⟩
    have h1000 := hs.1
    have w1 := w64 ((n : Int) + 1) (by omega) (by omega)
    have hpv := hs.2 p (List.mem_of_getElem? hp)
    have htk : S.take (n + 1) = S.take n ++ [p] := by rw [List.take_add_one, hp]; rfl
    have h140 := c140 p hpv
    simp only [encP, pgRow] at h140
    simp [hp, encP, pgRow]
    refine callw_told h140 (Nat.zero_le _) (by simp) ?_
    simp
    refine gC (fun h => ?_) (fun h => ?_) <;> simp at h <;> simp
    · have : S.findIdx? (fun p => !decide (PageOkP p)) = some n := by
        rw [List.findIdx?_eq_some_iff_getElem]
        obtain ⟨h1, h2⟩ := List.getElem?_eq_some_iff.1 hp
        refine ⟨h1, by rw [h2]; simp [h], fun j hj => ?_⟩
        have := hi S[j] (List.mem_take_iff_getElem.2 ⟨j, by omega, rfl⟩)
        simp [this]
      rw [this]
    · refine ih (n + 1) _ _ _ (by omega) ⟨hlt', ?_⟩ (by simp [w1]) (by simp) (Nat.le_refl _)
      rw [htk]; intro q hq; rcases List.mem_append.1 hq with hq | hq
      · exact hi q hq
      · simp at hq; rw [hq]; exact h
  · intro h
    obtain rfl : n = S.length := by omega
    rw [List.take_length] at hi
    have : S.findIdx? (fun p => !decide (PageOkP p)) = none := by
      rw [List.findIdx?_eq_none_iff]; intro x hx; simp [hi x hx]
    rw [this]

theorem c139 (S : List Pg) (hs : ShortPs S) : Told 139 [.sl 3 (S.map encP), .fn 140 []] [] [] 0 (.bool (!decide (∀ p ∈ S, PageOkP p))) := by
  refine told_of (Keep.nil _) trivial fun B _ => ?_
  refine acallsF M0 Tryz.func139 (by kernel_rfl) fun hlt => ?_
  simp [Tryz.f139]
  refine callw_told (c199 S hs) (Nat.zero_le _) (by simp) ?_
  simp
  cases h : S.findIdx? (fun p => !decide (PageOkP p)) with
  | none =>
    rw [List.findIdx?_eq_none_iff] at h
    have h' : ∀ p ∈ S, PageOkP p := fun p hp => by simpa using h p hp
    rw [decide_eq_true h']; simp
  | some i =>
    rw [List.findIdx?_eq_some_iff_getElem] at h
    obtain ⟨h1, h2, _⟩ := h
    have h' : ¬ ∀ p ∈ S, PageOkP p := fun hh => by simp [hh _ (List.getElem_mem h1)] at h2
    rw [decide_eq_false h']; simp

theorem c81 (S : List Pg) (hs : ShortPs S) : Told 81 [.sl 3 (S.map encP)] [] [] 0 (.bool (decide (PagesOkP S))) := by
  refine told_of (Keep.nil _) trivial fun B _ => ?_
  refine acallsF M0 Tryz.func81 (by kernel_rfl) fun hlt => ?_
  simp [Tryz.f81]
  refine gO (fun h => ?_) (fun h => ?_) <;> simp at h <;> simp [h, PagesOkP]
  · refine callw_told (c139 S hs) (Nat.zero_le _) (by simp) ?_
    have h' : S.length = 5 := by omega
    simp [h']
  · have h' : ¬ S.length = 5 := by omega
    simp [h']

theorem c102 (S : List Pg) (hs : ShortPs S) : Told 102 [.sl 3 (S.map encP)] [] [] 0 (.bool (decide (PagesOkP S))) := by
  refine told_of (Keep.nil _) trivial fun B _ => ?_
  refine acallsF M0 Tryz.func102 (by kernel_rfl) fun hlt => ?_
  simp [Tryz.f102]
  refine aloop_ind (ι := Nat) (fun n => S.length - n) (fun n => n ≤ S.length ∧ ∀ p ∈ S.take n, PageOkP p) (fun n => [(0, .sl 3 (S.map encP)), (3, I64 n)]) (fun _ => Hp.of []) (fun _ => B) 0 ⟨Nat.zero_le _, by simp⟩ (by simp) (by simp) (Nat.le_refl _) ?_
  rintro A n ⟨hn, hi⟩ ih
  refine wpC_sound M0 _ _ _ _ _ (by kernel_rfl) ?_
  simp [cond_dec]
  constructor
  · intro hlt'
    obtain ⟨p, hp⟩ : ∃ p, S[n]? = some p := ⟨_, List.getElem?_eq_getElem hlt'⟩
    have h1000 := hs.1
    have w1 := w64 ((n : Int) + 1) (by omega) (by omega)
    have hmem := List.mem_of_getElem? hp
    have hpv := hs.2 p hmem
    have htk : S.take (n + 1) = S.take n ++ [p] := by rw [List.take_add_one, hp]; rfl
    have h161 := c161 p hpv
    simp only [encP, pgRow] at h161
    simp [hp, encP, pgRow]
    refine callw_told h161 (Nat.zero_le _) (by simp) ?_
    simp
    refine gC (fun h => ?_) (fun h => ?_) <;> simp at h <;> simp
    · exact fun hh => h (hh.2 p hmem)
    · refine ih (n + 1) _ _ _ (by omega) ⟨hlt', ?_⟩ (by simp [w1]) (by simp) (Nat.le_refl _)
      rw [htk]; intro q hq; rcases List.mem_append.1 hq with hq | hq
      · exact hi q hq
      · simp at hq; rw [hq]; exact h
  · intro h
    obtain rfl : n = S.length := by omega
    rw [List.take_length] at hi
    have : ((S.length : Int) = 5) ↔ PagesOkP S := ⟨fun h => ⟨by omega, hi⟩, fun h => by have := h.1; omega⟩
    simp [this]

end Go.Proofs.YtnaafbdgkmlnaaaGreat
