/- Laws about the machine's run of the program's functions, part 14, in import order. No condition. -/
import Derived.Test.YtnaafbdgkmlnaaaGreatM12
import Derived.Test.YtnaafbdgkmlnaaaGreatM13

set_option linter.unusedVariables false
set_option linter.unusedSimpArgs false
set_option linter.unnecessarySimpa false
/- The table of known calls. (Printed by wip/mk.py, wip/tab.py.) -/
namespace Go.Proofs.YtnaafbdgkmlnaaaGreat
set_option linter.unusedVariables false
set_option linter.unusedSimpArgs false
set_option maxRecDepth 20000
set_option maxHeartbeats 2000000

noncomputable def an_M3 (f : FuncId) (args : List AV) : Option AV :=
  if f = 64 then anIn (fun n lo hi => some (.bool (decide (In n lo hi)))) args else
  if f = 68 then anIn (fun n lo hi => some (.bool (decide (In n lo hi)))) args else
  if f = 112 then anI (fun n => some (.bool (decide (In n 0 4)))) args else
  if f = 195 then anI (fun n => some (.bool (decide (In n 1 3)))) args else
  if f = 163 then anI (fun n => some (.bool (decide (Changes n)))) args else
  if f = 134 then anR (fun r => some (.bool (decide (Ends r)))) args else
  if f = 143 then anR (fun r => some (.bool (decide (Changes r.kind)))) args else
  if f = 119 then anR (fun r => some (.bool true)) args else
  if f = 193 then anR (fun r => some (.bool (decide (r.kind = 3)))) args else
  if f = 155 then anRI (fun r n => some (.agg (encR (backR r n)))) args else
  if f = 166 then anRI (fun r n => some (.agg (encR (backR r n)))) args else
  if f = 203 then anR (fun r => some (.bool (decide (OfOk r)))) args else
  if f = 133 then anR (fun r => some (.bool (decide (RecOkP r)))) args else
  none
theorem an_M3_ok : ∀ f args v, an_M3 f args = some v → Told f args [] [] 0 v := by
  intro f args v h
  delta an_M3 at h
  rcases ite_or h with ⟨e, h⟩ | ⟨_, h⟩; · subst e; obtain ⟨_, _, _, rfl, h1⟩ := anIn_inv h; cases h1; exact c64 _ _ _
  rcases ite_or h with ⟨e, h⟩ | ⟨_, h⟩; · subst e; obtain ⟨_, _, _, rfl, h1⟩ := anIn_inv h; cases h1; exact c68 _ _ _
  rcases ite_or h with ⟨e, h⟩ | ⟨_, h⟩; · subst e; obtain ⟨_, rfl, h1⟩ := anI_inv h; cases h1; exact c112 _
  rcases ite_or h with ⟨e, h⟩ | ⟨_, h⟩; · subst e; obtain ⟨_, rfl, h1⟩ := anI_inv h; cases h1; exact c195 _
  rcases ite_or h with ⟨e, h⟩ | ⟨_, h⟩; · subst e; obtain ⟨_, rfl, h1⟩ := anI_inv h; cases h1; exact c163 _
  rcases ite_or h with ⟨e, h⟩ | ⟨_, h⟩; · subst e; obtain ⟨_, rfl, h1⟩ := anR_inv h; cases h1; exact c134 _
  rcases ite_or h with ⟨e, h⟩ | ⟨_, h⟩; · subst e; obtain ⟨_, rfl, h1⟩ := anR_inv h; cases h1; exact c143 _
  rcases ite_or h with ⟨e, h⟩ | ⟨_, h⟩; · subst e; obtain ⟨_, rfl, h1⟩ := anR_inv h; cases h1; exact c119 _
  rcases ite_or h with ⟨e, h⟩ | ⟨_, h⟩; · subst e; obtain ⟨_, rfl, h1⟩ := anR_inv h; cases h1; exact c193 _
  rcases ite_or h with ⟨e, h⟩ | ⟨_, h⟩; · subst e; obtain ⟨_, _, rfl, h1⟩ := anRI_inv h; cases h1; exact c155 _ _
  rcases ite_or h with ⟨e, h⟩ | ⟨_, h⟩; · subst e; obtain ⟨_, _, rfl, h1⟩ := anRI_inv h; cases h1; exact c166 _ _
  rcases ite_or h with ⟨e, h⟩ | ⟨_, h⟩; · subst e; obtain ⟨_, rfl, h1⟩ := anR_inv h; cases h1; exact c203 _
  rcases ite_or h with ⟨e, h⟩ | ⟨_, h⟩; · subst e; obtain ⟨_, rfl, h1⟩ := anR_inv h; cases h1; exact c133 _
  cases h
noncomputable def M3 : Cfg := ⟨fun _ => false, an_M3, an_M3_ok⟩
@[simp] theorem M3_mu (d : Nat) : M3.mu d = false := nr rfl
@[simp] theorem M3_64 (xs : List AV) : M3.an 64 xs = anIn (fun n lo hi => some (.bool (decide (In n lo hi)))) xs := nr rfl
@[simp] theorem M3_68 (xs : List AV) : M3.an 68 xs = anIn (fun n lo hi => some (.bool (decide (In n lo hi)))) xs := nr rfl
@[simp] theorem M3_112 (xs : List AV) : M3.an 112 xs = anI (fun n => some (.bool (decide (In n 0 4)))) xs := nr rfl
@[simp] theorem M3_195 (xs : List AV) : M3.an 195 xs = anI (fun n => some (.bool (decide (In n 1 3)))) xs := nr rfl
@[simp] theorem M3_163 (xs : List AV) : M3.an 163 xs = anI (fun n => some (.bool (decide (Changes n)))) xs := nr rfl
@[simp] theorem M3_134 (xs : List AV) : M3.an 134 xs = anR (fun r => some (.bool (decide (Ends r)))) xs := nr rfl
@[simp] theorem M3_143 (xs : List AV) : M3.an 143 xs = anR (fun r => some (.bool (decide (Changes r.kind)))) xs := nr rfl
@[simp] theorem M3_119 (xs : List AV) : M3.an 119 xs = anR (fun r => some (.bool true)) xs := nr rfl
@[simp] theorem M3_193 (xs : List AV) : M3.an 193 xs = anR (fun r => some (.bool (decide (r.kind = 3)))) xs := nr rfl
@[simp] theorem M3_155 (xs : List AV) : M3.an 155 xs = anRI (fun r n => some (.agg (encR (backR r n)))) xs := nr rfl
@[simp] theorem M3_166 (xs : List AV) : M3.an 166 xs = anRI (fun r n => some (.agg (encR (backR r n)))) xs := nr rfl
@[simp] theorem M3_203 (xs : List AV) : M3.an 203 xs = anR (fun r => some (.bool (decide (OfOk r)))) xs := nr rfl
@[simp] theorem M3_133 (xs : List AV) : M3.an 133 xs = anR (fun r => some (.bool (decide (RecOkP r)))) xs := nr rfl
@[simp] theorem M3_3 (xs : List AV) : M3.an 3 xs = none := nr rfl
@[simp] theorem M3_4 (xs : List AV) : M3.an 4 xs = none := nr rfl
@[simp] theorem M3_5 (xs : List AV) : M3.an 5 xs = none := nr rfl
@[simp] theorem M3_6 (xs : List AV) : M3.an 6 xs = none := nr rfl
@[simp] theorem M3_7 (xs : List AV) : M3.an 7 xs = none := nr rfl
@[simp] theorem M3_8 (xs : List AV) : M3.an 8 xs = none := nr rfl
@[simp] theorem M3_9 (xs : List AV) : M3.an 9 xs = none := nr rfl
@[simp] theorem M3_10 (xs : List AV) : M3.an 10 xs = none := nr rfl
@[simp] theorem M3_11 (xs : List AV) : M3.an 11 xs = none := nr rfl
@[simp] theorem M3_12 (xs : List AV) : M3.an 12 xs = none := nr rfl
@[simp] theorem M3_13 (xs : List AV) : M3.an 13 xs = none := nr rfl
@[simp] theorem M3_14 (xs : List AV) : M3.an 14 xs = none := nr rfl
@[simp] theorem M3_15 (xs : List AV) : M3.an 15 xs = none := nr rfl
@[simp] theorem M3_16 (xs : List AV) : M3.an 16 xs = none := nr rfl
@[simp] theorem M3_17 (xs : List AV) : M3.an 17 xs = none := nr rfl
@[simp] theorem M3_18 (xs : List AV) : M3.an 18 xs = none := nr rfl
@[simp] theorem M3_19 (xs : List AV) : M3.an 19 xs = none := nr rfl
@[simp] theorem M3_20 (xs : List AV) : M3.an 20 xs = none := nr rfl
@[simp] theorem M3_21 (xs : List AV) : M3.an 21 xs = none := nr rfl
@[simp] theorem M3_22 (xs : List AV) : M3.an 22 xs = none := nr rfl
@[simp] theorem M3_23 (xs : List AV) : M3.an 23 xs = none := nr rfl
@[simp] theorem M3_24 (xs : List AV) : M3.an 24 xs = none := nr rfl
@[simp] theorem M3_25 (xs : List AV) : M3.an 25 xs = none := nr rfl
@[simp] theorem M3_26 (xs : List AV) : M3.an 26 xs = none := nr rfl
@[simp] theorem M3_27 (xs : List AV) : M3.an 27 xs = none := nr rfl
@[simp] theorem M3_28 (xs : List AV) : M3.an 28 xs = none := nr rfl
@[simp] theorem M3_29 (xs : List AV) : M3.an 29 xs = none := nr rfl
@[simp] theorem M3_30 (xs : List AV) : M3.an 30 xs = none := nr rfl
@[simp] theorem M3_31 (xs : List AV) : M3.an 31 xs = none := nr rfl
@[simp] theorem M3_32 (xs : List AV) : M3.an 32 xs = none := nr rfl
@[simp] theorem M3_33 (xs : List AV) : M3.an 33 xs = none := nr rfl
@[simp] theorem M3_34 (xs : List AV) : M3.an 34 xs = none := nr rfl
@[simp] theorem M3_35 (xs : List AV) : M3.an 35 xs = none := nr rfl
@[simp] theorem M3_36 (xs : List AV) : M3.an 36 xs = none := nr rfl
@[simp] theorem M3_37 (xs : List AV) : M3.an 37 xs = none := nr rfl
@[simp] theorem M3_38 (xs : List AV) : M3.an 38 xs = none := nr rfl
@[simp] theorem M3_39 (xs : List AV) : M3.an 39 xs = none := nr rfl
@[simp] theorem M3_40 (xs : List AV) : M3.an 40 xs = none := nr rfl
@[simp] theorem M3_41 (xs : List AV) : M3.an 41 xs = none := nr rfl
@[simp] theorem M3_42 (xs : List AV) : M3.an 42 xs = none := nr rfl
@[simp] theorem M3_43 (xs : List AV) : M3.an 43 xs = none := nr rfl
@[simp] theorem M3_44 (xs : List AV) : M3.an 44 xs = none := nr rfl
@[simp] theorem M3_45 (xs : List AV) : M3.an 45 xs = none := nr rfl
@[simp] theorem M3_46 (xs : List AV) : M3.an 46 xs = none := nr rfl
@[simp] theorem M3_47 (xs : List AV) : M3.an 47 xs = none := nr rfl
@[simp] theorem M3_48 (xs : List AV) : M3.an 48 xs = none := nr rfl
@[simp] theorem M3_49 (xs : List AV) : M3.an 49 xs = none := nr rfl
@[simp] theorem M3_50 (xs : List AV) : M3.an 50 xs = none := nr rfl
@[simp] theorem M3_51 (xs : List AV) : M3.an 51 xs = none := nr rfl
@[simp] theorem M3_52 (xs : List AV) : M3.an 52 xs = none := nr rfl
@[simp] theorem M3_53 (xs : List AV) : M3.an 53 xs = none := nr rfl
@[simp] theorem M3_54 (xs : List AV) : M3.an 54 xs = none := nr rfl
@[simp] theorem M3_55 (xs : List AV) : M3.an 55 xs = none := nr rfl
@[simp] theorem M3_56 (xs : List AV) : M3.an 56 xs = none := nr rfl
@[simp] theorem M3_57 (xs : List AV) : M3.an 57 xs = none := nr rfl
@[simp] theorem M3_58 (xs : List AV) : M3.an 58 xs = none := nr rfl
@[simp] theorem M3_59 (xs : List AV) : M3.an 59 xs = none := nr rfl
@[simp] theorem M3_60 (xs : List AV) : M3.an 60 xs = none := nr rfl
@[simp] theorem M3_61 (xs : List AV) : M3.an 61 xs = none := nr rfl
@[simp] theorem M3_62 (xs : List AV) : M3.an 62 xs = none := nr rfl
@[simp] theorem M3_63 (xs : List AV) : M3.an 63 xs = none := nr rfl
@[simp] theorem M3_65 (xs : List AV) : M3.an 65 xs = none := nr rfl
@[simp] theorem M3_66 (xs : List AV) : M3.an 66 xs = none := nr rfl
@[simp] theorem M3_67 (xs : List AV) : M3.an 67 xs = none := nr rfl
@[simp] theorem M3_69 (xs : List AV) : M3.an 69 xs = none := nr rfl
@[simp] theorem M3_70 (xs : List AV) : M3.an 70 xs = none := nr rfl
@[simp] theorem M3_71 (xs : List AV) : M3.an 71 xs = none := nr rfl
@[simp] theorem M3_72 (xs : List AV) : M3.an 72 xs = none := nr rfl
@[simp] theorem M3_73 (xs : List AV) : M3.an 73 xs = none := nr rfl
@[simp] theorem M3_74 (xs : List AV) : M3.an 74 xs = none := nr rfl
@[simp] theorem M3_75 (xs : List AV) : M3.an 75 xs = none := nr rfl
@[simp] theorem M3_76 (xs : List AV) : M3.an 76 xs = none := nr rfl
@[simp] theorem M3_77 (xs : List AV) : M3.an 77 xs = none := nr rfl
@[simp] theorem M3_78 (xs : List AV) : M3.an 78 xs = none := nr rfl
@[simp] theorem M3_79 (xs : List AV) : M3.an 79 xs = none := nr rfl
@[simp] theorem M3_80 (xs : List AV) : M3.an 80 xs = none := nr rfl
@[simp] theorem M3_81 (xs : List AV) : M3.an 81 xs = none := nr rfl
@[simp] theorem M3_82 (xs : List AV) : M3.an 82 xs = none := nr rfl
@[simp] theorem M3_83 (xs : List AV) : M3.an 83 xs = none := nr rfl
@[simp] theorem M3_84 (xs : List AV) : M3.an 84 xs = none := nr rfl
@[simp] theorem M3_85 (xs : List AV) : M3.an 85 xs = none := nr rfl
@[simp] theorem M3_86 (xs : List AV) : M3.an 86 xs = none := nr rfl
@[simp] theorem M3_87 (xs : List AV) : M3.an 87 xs = none := nr rfl
@[simp] theorem M3_88 (xs : List AV) : M3.an 88 xs = none := nr rfl
@[simp] theorem M3_89 (xs : List AV) : M3.an 89 xs = none := nr rfl
@[simp] theorem M3_90 (xs : List AV) : M3.an 90 xs = none := nr rfl
@[simp] theorem M3_91 (xs : List AV) : M3.an 91 xs = none := nr rfl
@[simp] theorem M3_92 (xs : List AV) : M3.an 92 xs = none := nr rfl
@[simp] theorem M3_93 (xs : List AV) : M3.an 93 xs = none := nr rfl
@[simp] theorem M3_94 (xs : List AV) : M3.an 94 xs = none := nr rfl
@[simp] theorem M3_95 (xs : List AV) : M3.an 95 xs = none := nr rfl
@[simp] theorem M3_96 (xs : List AV) : M3.an 96 xs = none := nr rfl
@[simp] theorem M3_97 (xs : List AV) : M3.an 97 xs = none := nr rfl
@[simp] theorem M3_98 (xs : List AV) : M3.an 98 xs = none := nr rfl
@[simp] theorem M3_99 (xs : List AV) : M3.an 99 xs = none := nr rfl
@[simp] theorem M3_100 (xs : List AV) : M3.an 100 xs = none := nr rfl
@[simp] theorem M3_101 (xs : List AV) : M3.an 101 xs = none := nr rfl
@[simp] theorem M3_102 (xs : List AV) : M3.an 102 xs = none := nr rfl
@[simp] theorem M3_103 (xs : List AV) : M3.an 103 xs = none := nr rfl
@[simp] theorem M3_104 (xs : List AV) : M3.an 104 xs = none := nr rfl
@[simp] theorem M3_105 (xs : List AV) : M3.an 105 xs = none := nr rfl
@[simp] theorem M3_106 (xs : List AV) : M3.an 106 xs = none := nr rfl
@[simp] theorem M3_107 (xs : List AV) : M3.an 107 xs = none := nr rfl
@[simp] theorem M3_108 (xs : List AV) : M3.an 108 xs = none := nr rfl
@[simp] theorem M3_109 (xs : List AV) : M3.an 109 xs = none := nr rfl
@[simp] theorem M3_110 (xs : List AV) : M3.an 110 xs = none := nr rfl
@[simp] theorem M3_111 (xs : List AV) : M3.an 111 xs = none := nr rfl
@[simp] theorem M3_113 (xs : List AV) : M3.an 113 xs = none := nr rfl
@[simp] theorem M3_114 (xs : List AV) : M3.an 114 xs = none := nr rfl
@[simp] theorem M3_115 (xs : List AV) : M3.an 115 xs = none := nr rfl
@[simp] theorem M3_116 (xs : List AV) : M3.an 116 xs = none := nr rfl
@[simp] theorem M3_117 (xs : List AV) : M3.an 117 xs = none := nr rfl
@[simp] theorem M3_118 (xs : List AV) : M3.an 118 xs = none := nr rfl
@[simp] theorem M3_120 (xs : List AV) : M3.an 120 xs = none := nr rfl
@[simp] theorem M3_121 (xs : List AV) : M3.an 121 xs = none := nr rfl
@[simp] theorem M3_122 (xs : List AV) : M3.an 122 xs = none := nr rfl
@[simp] theorem M3_123 (xs : List AV) : M3.an 123 xs = none := nr rfl
@[simp] theorem M3_124 (xs : List AV) : M3.an 124 xs = none := nr rfl
@[simp] theorem M3_125 (xs : List AV) : M3.an 125 xs = none := nr rfl
@[simp] theorem M3_126 (xs : List AV) : M3.an 126 xs = none := nr rfl
@[simp] theorem M3_127 (xs : List AV) : M3.an 127 xs = none := nr rfl
@[simp] theorem M3_128 (xs : List AV) : M3.an 128 xs = none := nr rfl
@[simp] theorem M3_129 (xs : List AV) : M3.an 129 xs = none := nr rfl
@[simp] theorem M3_130 (xs : List AV) : M3.an 130 xs = none := nr rfl
@[simp] theorem M3_131 (xs : List AV) : M3.an 131 xs = none := nr rfl
@[simp] theorem M3_132 (xs : List AV) : M3.an 132 xs = none := nr rfl
@[simp] theorem M3_135 (xs : List AV) : M3.an 135 xs = none := nr rfl
@[simp] theorem M3_136 (xs : List AV) : M3.an 136 xs = none := nr rfl
@[simp] theorem M3_137 (xs : List AV) : M3.an 137 xs = none := nr rfl
@[simp] theorem M3_138 (xs : List AV) : M3.an 138 xs = none := nr rfl
@[simp] theorem M3_139 (xs : List AV) : M3.an 139 xs = none := nr rfl
@[simp] theorem M3_140 (xs : List AV) : M3.an 140 xs = none := nr rfl
@[simp] theorem M3_141 (xs : List AV) : M3.an 141 xs = none := nr rfl
@[simp] theorem M3_142 (xs : List AV) : M3.an 142 xs = none := nr rfl
@[simp] theorem M3_144 (xs : List AV) : M3.an 144 xs = none := nr rfl
@[simp] theorem M3_145 (xs : List AV) : M3.an 145 xs = none := nr rfl
@[simp] theorem M3_146 (xs : List AV) : M3.an 146 xs = none := nr rfl
@[simp] theorem M3_147 (xs : List AV) : M3.an 147 xs = none := nr rfl
@[simp] theorem M3_148 (xs : List AV) : M3.an 148 xs = none := nr rfl
@[simp] theorem M3_149 (xs : List AV) : M3.an 149 xs = none := nr rfl
@[simp] theorem M3_150 (xs : List AV) : M3.an 150 xs = none := nr rfl
@[simp] theorem M3_151 (xs : List AV) : M3.an 151 xs = none := nr rfl
@[simp] theorem M3_152 (xs : List AV) : M3.an 152 xs = none := nr rfl
@[simp] theorem M3_153 (xs : List AV) : M3.an 153 xs = none := nr rfl
@[simp] theorem M3_154 (xs : List AV) : M3.an 154 xs = none := nr rfl
@[simp] theorem M3_156 (xs : List AV) : M3.an 156 xs = none := nr rfl
@[simp] theorem M3_157 (xs : List AV) : M3.an 157 xs = none := nr rfl
@[simp] theorem M3_158 (xs : List AV) : M3.an 158 xs = none := nr rfl
@[simp] theorem M3_159 (xs : List AV) : M3.an 159 xs = none := nr rfl
@[simp] theorem M3_160 (xs : List AV) : M3.an 160 xs = none := nr rfl
@[simp] theorem M3_161 (xs : List AV) : M3.an 161 xs = none := nr rfl
@[simp] theorem M3_162 (xs : List AV) : M3.an 162 xs = none := nr rfl
@[simp] theorem M3_164 (xs : List AV) : M3.an 164 xs = none := nr rfl
@[simp] theorem M3_165 (xs : List AV) : M3.an 165 xs = none := nr rfl
@[simp] theorem M3_167 (xs : List AV) : M3.an 167 xs = none := nr rfl
@[simp] theorem M3_168 (xs : List AV) : M3.an 168 xs = none := nr rfl
@[simp] theorem M3_169 (xs : List AV) : M3.an 169 xs = none := nr rfl
@[simp] theorem M3_170 (xs : List AV) : M3.an 170 xs = none := nr rfl
@[simp] theorem M3_171 (xs : List AV) : M3.an 171 xs = none := nr rfl
@[simp] theorem M3_172 (xs : List AV) : M3.an 172 xs = none := nr rfl
@[simp] theorem M3_173 (xs : List AV) : M3.an 173 xs = none := nr rfl
@[simp] theorem M3_174 (xs : List AV) : M3.an 174 xs = none := nr rfl
@[simp] theorem M3_175 (xs : List AV) : M3.an 175 xs = none := nr rfl
@[simp] theorem M3_176 (xs : List AV) : M3.an 176 xs = none := nr rfl
@[simp] theorem M3_177 (xs : List AV) : M3.an 177 xs = none := nr rfl
@[simp] theorem M3_178 (xs : List AV) : M3.an 178 xs = none := nr rfl
@[simp] theorem M3_179 (xs : List AV) : M3.an 179 xs = none := nr rfl
@[simp] theorem M3_180 (xs : List AV) : M3.an 180 xs = none := nr rfl
@[simp] theorem M3_181 (xs : List AV) : M3.an 181 xs = none := nr rfl
@[simp] theorem M3_182 (xs : List AV) : M3.an 182 xs = none := nr rfl
@[simp] theorem M3_183 (xs : List AV) : M3.an 183 xs = none := nr rfl
@[simp] theorem M3_184 (xs : List AV) : M3.an 184 xs = none := nr rfl
@[simp] theorem M3_185 (xs : List AV) : M3.an 185 xs = none := nr rfl
@[simp] theorem M3_186 (xs : List AV) : M3.an 186 xs = none := nr rfl
@[simp] theorem M3_187 (xs : List AV) : M3.an 187 xs = none := nr rfl
@[simp] theorem M3_188 (xs : List AV) : M3.an 188 xs = none := nr rfl
@[simp] theorem M3_189 (xs : List AV) : M3.an 189 xs = none := nr rfl
@[simp] theorem M3_190 (xs : List AV) : M3.an 190 xs = none := nr rfl
@[simp] theorem M3_191 (xs : List AV) : M3.an 191 xs = none := nr rfl
@[simp] theorem M3_192 (xs : List AV) : M3.an 192 xs = none := nr rfl
@[simp] theorem M3_194 (xs : List AV) : M3.an 194 xs = none := nr rfl
@[simp] theorem M3_196 (xs : List AV) : M3.an 196 xs = none := nr rfl
@[simp] theorem M3_197 (xs : List AV) : M3.an 197 xs = none := nr rfl
@[simp] theorem M3_198 (xs : List AV) : M3.an 198 xs = none := nr rfl
@[simp] theorem M3_199 (xs : List AV) : M3.an 199 xs = none := nr rfl
@[simp] theorem M3_200 (xs : List AV) : M3.an 200 xs = none := nr rfl
@[simp] theorem M3_201 (xs : List AV) : M3.an 201 xs = none := nr rfl
@[simp] theorem M3_202 (xs : List AV) : M3.an 202 xs = none := nr rfl
@[simp] theorem M3_204 (xs : List AV) : M3.an 204 xs = none := nr rfl
@[simp] theorem M3_205 (xs : List AV) : M3.an 205 xs = none := nr rfl
@[simp] theorem M3_206 (xs : List AV) : M3.an 206 xs = none := nr rfl
@[simp] theorem M3_207 (xs : List AV) : M3.an 207 xs = none := nr rfl
@[simp] theorem M3_208 (xs : List AV) : M3.an 208 xs = none := nr rfl
@[simp] theorem M3_209 (xs : List AV) : M3.an 209 xs = none := nr rfl
@[simp] theorem M3_210 (xs : List AV) : M3.an 210 xs = none := nr rfl
@[simp] theorem M3_211 (xs : List AV) : M3.an 211 xs = none := nr rfl
@[simp] theorem M3_212 (xs : List AV) : M3.an 212 xs = none := nr rfl
@[simp] theorem M3_213 (xs : List AV) : M3.an 213 xs = none := nr rfl
@[simp] theorem M3_214 (xs : List AV) : M3.an 214 xs = none := nr rfl
@[simp] theorem M3_215 (xs : List AV) : M3.an 215 xs = none := nr rfl
@[simp] theorem M3_216 (xs : List AV) : M3.an 216 xs = none := nr rfl
@[simp] theorem M3_217 (xs : List AV) : M3.an 217 xs = none := nr rfl
@[simp] theorem M3_218 (xs : List AV) : M3.an 218 xs = none := nr rfl
@[simp] theorem M3_219 (xs : List AV) : M3.an 219 xs = none := nr rfl
@[simp] theorem M3_220 (xs : List AV) : M3.an 220 xs = none := nr rfl
@[simp] theorem M3_221 (xs : List AV) : M3.an 221 xs = none := nr rfl
@[simp] theorem M3_222 (xs : List AV) : M3.an 222 xs = none := nr rfl
@[simp] theorem M3_223 (xs : List AV) : M3.an 223 xs = none := nr rfl
@[simp] theorem M3_224 (xs : List AV) : M3.an 224 xs = none := nr rfl
@[simp] theorem M3_225 (xs : List AV) : M3.an 225 xs = none := nr rfl
@[simp] theorem M3_226 (xs : List AV) : M3.an 226 xs = none := nr rfl
@[simp] theorem M3_227 (xs : List AV) : M3.an 227 xs = none := nr rfl
@[simp] theorem M3_228 (xs : List AV) : M3.an 228 xs = none := nr rfl
@[simp] theorem M3_229 (xs : List AV) : M3.an 229 xs = none := nr rfl
@[simp] theorem M3_230 (xs : List AV) : M3.an 230 xs = none := nr rfl
@[simp] theorem M3_231 (xs : List AV) : M3.an 231 xs = none := nr rfl

end Go.Proofs.YtnaafbdgkmlnaaaGreat

/- Functions: records, the reference's. -/
namespace Go.Proofs.YtnaafbdgkmlnaaaGreat
set_option linter.unusedVariables false
set_option linter.unusedSimpArgs false
set_option linter.unnecessarySimpa false
set_option maxRecDepth 20000
set_option maxHeartbeats 2000000

theorem c162 (r : R) : Told 162 [.agg (encR r)] [] [] 0 (.bool (decide (RecOkP r))) := by
  refine told_of (Keep.nil _) trivial fun B _ => ?_
  refine acallsF M3 Tryz.func162 (by kernel_rfl) fun hlt => ?_
  simp (config := {maxSteps := 1000000}) [Tryz.f162, encR]
  repeat' (first
    | (refine gO (fun h => ?_) (fun h => ?_) <;> (try simp [-Int.not_le, -Int.not_lt] at h) <;> simp [*, In_m1])
    | (refine gD (fun h => ?_) (fun h => ?_) <;> (try simp [-Int.not_le, -Int.not_lt] at h) <;> simp [*, In_m1])
    | (refine gC (fun h => ?_) (fun h => ?_) <;> (try simp [-Int.not_le, -Int.not_lt] at h) <;> simp [*, In_m1]))
  all_goals clear hlt
  all_goals (simp only [RecOkP, PutOk, OwnOk, LoadOk, EndOk, UndoOk, OfOk, In] at *; omega)

end Go.Proofs.YtnaafbdgkmlnaaaGreat

/- Functions: pages. -/
namespace Go.Proofs.YtnaafbdgkmlnaaaGreat
set_option linter.unusedVariables false
set_option linter.unusedSimpArgs false
set_option linter.unnecessarySimpa false
set_option maxRecDepth 20000
set_option maxHeartbeats 2000000

theorem c209 (n : Int) : Told 209 [I64 n] [] [] 0 (.bool (!decide (In n 0 9))) := by
  refine told_of (Keep.nil _) trivial fun B _ => ?_
  refine acallsF M3 Tryz.func209 (by kernel_rfl) fun hlt => ?_
  simp [Tryz.f209]
theorem c213 (n : Int) : Told 213 [I64 n] [] [] 0 (.bool (!decide (n = 0))) := by
  refine told_of (Keep.nil _) trivial fun B _ => ?_
  refine acallsF M3 Tryz.func213 (by kernel_rfl) fun hlt => ?_
  simp [Tryz.f213]

/-- The first place at which p holds, from i on; -1, if there is none. -/
def idxB (p : Int → Bool) : List Int → Nat → Int
  | [], _ => -1
  | v :: l, i => if p v then (i : Int) else idxB p l (i + 1)

theorem ints_get (L : List Int) (n : Nat) : (ints L)[n]? = (L[n]?).map fun v => [I64 v] := by simp [ints]
theorem idxB_succ {p : Int → Bool} {L : List Int} {n : Nat} {v : Int} (h : L[n]? = some v) : idxB p (L.drop n) n = if p v then (n : Int) else idxB p (L.drop (n + 1)) (n + 1) := by
  obtain ⟨hn, rfl⟩ := List.getElem?_eq_some_iff.1 h
  rw [List.drop_eq_getElem_cons hn, idxB]

theorem c210 (f : FuncId) (p : Int → Bool) (hf : okF f = true) (hp : ∀ n, Told f [I64 n] [] [] 0 (.bool (p n))) (L : List Int) (hL : L.length ≤ 1000000) : Told 210 [.sl 1 (ints L), .fn f []] [] [] 0 (I64 (idxB p L 0)) := by
  refine told_of (Keep.nil _) trivial fun B _ => ?_
  refine acallsF M0 Tryz.func210 (by kernel_rfl) fun hlt => ?_
  simp [Tryz.f210]
  refine aloop_ind (ι := Nat) (fun n => L.length - n) (fun n => n ≤ L.length ∧ idxB p (L.drop n) n = idxB p L 0) (fun n => [(0, .sl 1 (ints L)), (1, .fn f []), (7, I64 L.length), (8, I64 n)]) (fun _ => Hp.of []) (fun _ => B) 0 ⟨Nat.zero_le _, rfl⟩ (by simp) (by simp) (Nat.le_refl _) ?_
  rintro A n ⟨hn, hi⟩ ih
  refine wpC_sound M0 _ _ _ _ _ (by kernel_rfl) ?_
  simp [cond_dec]
  constructor
  · intro hlt'
    obtain ⟨v, hv⟩ : ∃ v, L[n]? = some v := ⟨_, List.getElem?_eq_getElem hlt'⟩
    have w1 := w64 ((n : Int) + 1) (by omega) (by omega)
    have hv' := idxB_succ (p := p) hv
    have hf' : 3 ≤ f ∧ f < 232 := by simpa [okF] using hf
    simp [ints_get, hv, hf']
    refine callw_told (hp v) (Nat.zero_le _) (by simp) ?_
    simp
    refine gC (fun h => ?_) (fun h => ?_) <;> simp [h] at hv' ⊢
    · rw [← hi, hv']
    · refine ih (n + 1) _ _ _ (by omega) ⟨hlt', by rw [← hv', hi]⟩ (by simp [w1]) (by simp) (Nat.le_refl _)
  · intro h
    obtain rfl : n = L.length := by omega
    simp [← hi, idxB]

theorem idxB_nn {p : Int → Bool} : ∀ (L : List Int) (i : Nat), (0 ≤ idxB p L i) ↔ ∃ v ∈ L, p v = true
  | [], i => by simp [idxB]
  | v :: L, i => by
    have := idxB_nn (p := p) L (i + 1)
    by_cases h : p v = true
    · simp [idxB, h]
    · simp [idxB, h, this]

theorem c189 (f : FuncId) (p : Int → Bool) (hf : okF f = true) (hp : ∀ n, Told f [I64 n] [] [] 0 (.bool (p n))) (L : List Int) (hL : L.length ≤ 1000000) : Told 189 [.sl 1 (ints L), .fn f []] [] [] 0 (.bool (!decide (∀ v ∈ L, p v = false))) := by
  refine told_of (Keep.nil _) trivial fun B _ => ?_
  refine acallsF M0 Tryz.func189 (by kernel_rfl) fun hlt => ?_
  simp [Tryz.f189]
  refine callw_told (c210 f p hf hp L hL) (Nat.zero_le _) (by simp) ?_
  simp
  by_cases h : ∃ v ∈ L, p v = true
  · rw [decide_eq_true ((idxB_nn L 0).2 h), decide_eq_false (by obtain ⟨v, h1, h2⟩ := h; intro hh; rw [hh v h1] at h2; cases h2)]; rfl
  · rw [decide_eq_false (fun q => h ((idxB_nn L 0).1 q)), decide_eq_true (by intro v hv; cases hp' : p v with | false => rfl | true => exact absurd ⟨v, hv, hp'⟩ h)]; rfl

theorem c200 (L : List Int) (hL : L.length ≤ 1000000) : Told 200 [.sl 1 (ints L)] [] [] 0 (.bool (decide (AllZ L))) := by
  refine told_of (Keep.nil _) trivial fun B _ => ?_
  refine acallsF M0 Tryz.func200 (by kernel_rfl) fun hlt => ?_
  simp [Tryz.f200]
  refine callw_told (c189 213 _ rfl c213 L hL) (Nat.zero_le _) (by simp) ?_
  simp
  exact Iff.rfl

def ValsOk (L : List Int) : Prop := L.length = 3 ∧ ∀ v ∈ L, In v 0 9
instance (L : List Int) : Decidable (ValsOk L) := by unfold ValsOk; infer_instance
theorem c188 (L : List Int) (hL : L.length ≤ 1000000) : Told 188 [.sl 1 (ints L)] [] [] 0 (.bool (decide (ValsOk L))) := by
  refine told_of (Keep.nil _) trivial fun B _ => ?_
  refine acallsF M0 Tryz.func188 (by kernel_rfl) fun hlt => ?_
  simp [Tryz.f188]
  refine gO (fun h => ?_) (fun h => ?_) <;> simp at h <;> simp [h, ValsOk]
  · refine callw_told (c189 209 _ rfl c209 L hL) (Nat.zero_le _) (by simp) ?_
    have h' : L.length = 3 := by omega
    simp [h']
  · have h' : ¬ L.length = 3 := by omega
    simp [h']

end Go.Proofs.YtnaafbdgkmlnaaaGreat
