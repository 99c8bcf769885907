/-
  Calls of one text, or one value, each run once: the reserved words; names; values as bytes.
-/
import Derived.Test.YtiahoioaklpnlaaGreatDoorCtx
import Derived.Test.YtiahoioaklpnlaaGreatDoorSorted
import Derived.Test.YtiahoioaklpnlaaGreatDoorAmQuiet
import Derived.Test.YtiahoioaklpnlaaGreatDoorAmFastDraw
namespace Go.Proofs.YtiahoioaklpnlaaGreatDoor
open Go.Am
set_option maxRecDepth 1000000
noncomputable def X : Ctx := Ctx.of Tryz.prog eqT
theorem fnsX : ∀ f fn, X.fns.get f = some fn → fnOK fn = true := fnsOK_of fns
noncomputable def gl1 : List (Nat × List AV) := [(1, (List.range 256).map fun i => AV.int .u8 (Int.ofNat (if i = 32 ∨ (9 ≤ i ∧ i ≤ 13) then 1 else 0)))]
abbrev OL := List (FuncId × (List AV → St → Option CR))
noncomputable def base0 : OL := [(153, f64from), (253, f64bits), (50, sortedOwn [98, 99])]
theorem base0_ok : ∀ p ∈ base0, OwnOne Tryz.prog p.1 p.2 := by
  intro p hp
  simp only [base0, List.mem_cons, List.not_mem_nil, or_false] at hp
  rcases hp with rfl | rfl | rfl
  · exact f64from_own ⟨_, Tryz.func153, rfl, rfl, rfl, rfl⟩
  · exact f64bits_own ⟨_, Tryz.func253, rfl, rfl, rfl, rfl⟩
  · exact sorted_own sorted50
theorem more_ok {l m : OL} (hl : ∀ p ∈ l, OwnOne Tryz.prog p.1 p.2) (hm : ∀ p ∈ m, OwnOne Tryz.prog p.1 p.2) : ∀ p ∈ l ++ m, OwnOne Tryz.prog p.1 p.2 := by
  intro p hp
  rcases List.mem_append.mp hp with h | h
  · exact hl p h
  · exact hm p h
theorem one_ok {f : FuncId} {g : List AV → St → Option CR} (h : OwnOne Tryz.prog f g) : ∀ p ∈ [(f, g)], OwnOne Tryz.prog p.1 p.2 := by
  intro p hp
  simp only [List.mem_cons, List.not_mem_nil, or_false] at hp
  subst hp
  exact h
theorem memosX {l : OL} (hl : ∀ p ∈ l, OwnOne Tryz.prog p.1 p.2) {f : FuncId} {ms : List Memo} (h : (ms.all fun m => m.ok (runQ X (ownL l) 100000 f m.args m.st0)) = true) : OwnOne Tryz.prog f (memosOwn ms) :=
  memos_own fun m hm => memo_own ctx fnsX (ownL_ok hl) (n := 100000) m (by rw [← runQ_ok]; exact List.all_eq_true.mp h m hm)
theorem partX {l : OL} (hl : ∀ p ∈ l, OwnOne Tryz.prog p.1 p.2) {f : FuncId} {p : Part} (h : p.ok (runQ X (ownL l) 100000 f p.args p.st0) = true) : OwnOne Tryz.prog f p.own :=
  part_own ctx fnsX (ownL_ok hl) (n := 100000) p (by rw [← runQ_ok]; exact h)
theorem quietX {l : OL} (hl : ∀ p ∈ l, OwnOne Tryz.prog p.1 p.2) {f : FuncId} {p : Part} (h : p.okQ (runQ X (ownL l) 100000 f p.args p.st0) = true) : OwnOne Tryz.prog f p.ownQ :=
  partQ_own ctx fnsX (ownL_ok hl) (n := 100000) p (by rw [← runQ_ok]; exact h)
noncomputable def kw : List Memo := [{ args := [(.str ⟨178, 191180693492459605289265108716028865142698615458485896273281679180344155035292288939856503791988113631328814158571368436552384725243942271726523570724059256721426418639416142664572018403841668807430142816732569908288942488246936596059172713496490170320570775117709756035463421180242573916071125604694877258427522563180673726910512079365672514005651908945816298921188599746808333148464627990504293097853998085496141249415012447077⟩)], v := (.slc (some (0, 0, 1)) 32 32 true), K := [0], bl := [[(.str ⟨6, 115923103347316⟩), (.str ⟨4, 1768846447⟩), (.str ⟨6, 130160803538291⟩), (.str ⟨6, 129125580895333⟩), (.str ⟨3, 7562612⟩), (.str ⟨5, 512852587109⟩), (.str ⟨3, 6385252⟩), (.str ⟨6, 110386773062757⟩), (.str ⟨4, 1718775661⟩), (.str ⟨6, 126879447475060⟩), (.str ⟨6, 109342978307173⟩), (.str ⟨6, 129117075895653⟩), (.str ⟨5, 499850046565⟩), (.str ⟨5, 452823639416⟩), (.str ⟨2, 28526⟩), (.str ⟨4, 1685221232⟩), (.str ⟨5, 418431395186⟩), (.str ⟨3, 6382692⟩), (.str ⟨6, 109330212154734⟩), (.str ⟨7, 28258988067220596⟩), (.str ⟨3, 7237492⟩), (.str ⟨4, 1853189228⟩), (.str ⟨2, 26995⟩), (.str ⟨7, 31650994523828857⟩), (.str ⟨3, 7038329⟩), (.str ⟨4, 1651470188⟩), (.str ⟨3, 6909556⟩), (.str ⟨5, 439905902964⟩), (.str ⟨5, 422944466291⟩), (.str ⟨4, 1952807028⟩), (.str ⟨4, 1953658213⟩), (.str ⟨5, 439721161573⟩)]], gl := gl1, sh := [] }]
theorem kw_ok : (kw.all fun m => m.ok (runQ X (ownL base0) 100000 206 m.args m.st0)) = true := by decide +kernel
noncomputable def base1 : OL := base0 ++ [(206, memosOwn kw)]
theorem base1_ok : ∀ p ∈ base1, OwnOne Tryz.prog p.1 p.2 := more_ok base0_ok (one_ok (memosX base0_ok kw_ok))
noncomputable def m91 : List Memo := [{ args := [(.str ⟨1, 100⟩)], v := (.bool true), K := [], bl := [], gl := gl1, sh := [] },
  { args := [(.str ⟨1, 101⟩)], v := (.bool true), K := [], bl := [], gl := gl1, sh := [] },
  { args := [(.str ⟨1, 105⟩)], v := (.bool true), K := [], bl := [], gl := gl1, sh := [] },
  { args := [(.str ⟨1, 116⟩)], v := (.bool true), K := [], bl := [], gl := gl1, sh := [] },
  { args := [(.str ⟨1, 117⟩)], v := (.bool true), K := [], bl := [], gl := gl1, sh := [] },
  { args := [(.str ⟨1, 97⟩)], v := (.bool true), K := [], bl := [], gl := gl1, sh := [] },
  { args := [(.str ⟨1, 98⟩)], v := (.bool true), K := [], bl := [], gl := gl1, sh := [] },
  { args := [(.str ⟨1, 99⟩)], v := (.bool true), K := [], bl := [], gl := gl1, sh := [] }]
theorem m91_ok : (m91.all fun m => m.ok (runQ X (ownL base1) 100000 91 m.args m.st0)) = true := by decide +kernel
noncomputable def m124 : List Memo := [{ args := [(.str ⟨1, 100⟩)], v := (.bool true), K := [], bl := [], gl := [], sh := [] },
  { args := [(.str ⟨1, 101⟩)], v := (.bool true), K := [], bl := [], gl := [], sh := [] },
  { args := [(.str ⟨1, 105⟩)], v := (.bool true), K := [], bl := [], gl := [], sh := [] },
  { args := [(.str ⟨1, 116⟩)], v := (.bool true), K := [], bl := [], gl := [], sh := [] },
  { args := [(.str ⟨1, 117⟩)], v := (.bool true), K := [], bl := [], gl := [], sh := [] },
  { args := [(.str ⟨1, 97⟩)], v := (.bool true), K := [], bl := [], gl := [], sh := [] },
  { args := [(.str ⟨1, 98⟩)], v := (.bool true), K := [], bl := [], gl := [], sh := [] },
  { args := [(.str ⟨1, 99⟩)], v := (.bool true), K := [], bl := [], gl := [], sh := [] }]
theorem m124_ok : (m124.all fun m => m.ok (runQ X (ownL base1) 100000 124 m.args m.st0)) = true := by decide +kernel
noncomputable def m179 : List Memo := [{ args := [(.agg [(.int .i64 0), (.int .i64 0), (.int .u64 0), (.str ⟨0, 0⟩)])], v := (.tup [(.str ⟨1, 1⟩), (.int .i64 0)]), K := [], bl := [], gl := [], sh := [] },
  { args := [(.agg [(.int .i64 2), (.int .i64 1), (.int .u64 0), (.str ⟨0, 0⟩)])], v := (.tup [(.str ⟨9, 83010348331692982273⟩), (.int .i64 0)]), K := [], bl := [], gl := [], sh := [] },
  { args := [(.agg [(.int .i64 2), (.int .i64 2), (.int .u64 0), (.str ⟨0, 0⟩)])], v := (.tup [(.str ⟨9, 83010348331692982274⟩), (.int .i64 0)]), K := [], bl := [], gl := [], sh := [] },
  { args := [(.agg [(.int .i64 2), (.int .i64 5), (.int .u64 0), (.str ⟨0, 0⟩)])], v := (.tup [(.str ⟨9, 83010348331692982277⟩), (.int .i64 0)]), K := [], bl := [], gl := [], sh := [] },
  { args := [(.agg [(.int .i64 2), (.int .i64 6), (.int .u64 0), (.str ⟨0, 0⟩)])], v := (.tup [(.str ⟨9, 83010348331692982278⟩), (.int .i64 0)]), K := [], bl := [], gl := [], sh := [] },
  { args := [(.agg [(.int .i64 3), (.int .i64 0), (.int .u64 0), (.str ⟨0, 0⟩)])], v := (.tup [(.str ⟨9, 101457092405402533888⟩), (.int .i64 0)]), K := [], bl := [], gl := [], sh := [] },
  { args := [(.agg [(.int .i64 3), (.int .i64 0), (.int .u64 4607182418800017408), (.str ⟨0, 0⟩)])], v := (.tup [(.str ⟨9, 106064274824202551296⟩), (.int .i64 0)]), K := [], bl := [], gl := [], sh := [] },
  { args := [(.agg [(.int .i64 5), (.int .i64 0), (.int .u64 0), (.str ⟨1, 120⟩)])], v := (.tup [(.str ⟨4, 125304833⟩), (.int .i64 0)]), K := [], bl := [], gl := [], sh := [] },
  { args := [(.agg [(.int .i64 5), (.int .i64 0), (.int .u64 0), (.str ⟨1, 121⟩)])], v := (.tup [(.str ⟨4, 125370369⟩), (.int .i64 0)]), K := [], bl := [], gl := [], sh := [] }]
theorem m179_ok : (m179.all fun m => m.ok (runQ X (ownL base1) 100000 179 m.args m.st0)) = true := by decide +kernel
noncomputable def m181 : List Memo := [{ args := [(.agg [(.int .i64 0), (.int .i64 0), (.int .u64 0), (.str ⟨0, 0⟩)])], v := (.tup [(.str ⟨1, 1⟩), (.int .i64 0)]), K := [], bl := [], gl := [], sh := [] },
  { args := [(.agg [(.int .i64 2), (.int .i64 1), (.int .u64 0), (.str ⟨0, 0⟩)])], v := (.tup [(.str ⟨9, 83010348331692982273⟩), (.int .i64 0)]), K := [], bl := [], gl := [], sh := [] },
  { args := [(.agg [(.int .i64 2), (.int .i64 2), (.int .u64 0), (.str ⟨0, 0⟩)])], v := (.tup [(.str ⟨9, 83010348331692982274⟩), (.int .i64 0)]), K := [], bl := [], gl := [], sh := [] },
  { args := [(.agg [(.int .i64 2), (.int .i64 5), (.int .u64 0), (.str ⟨0, 0⟩)])], v := (.tup [(.str ⟨9, 83010348331692982277⟩), (.int .i64 0)]), K := [], bl := [], gl := [], sh := [] },
  { args := [(.agg [(.int .i64 2), (.int .i64 6), (.int .u64 0), (.str ⟨0, 0⟩)])], v := (.tup [(.str ⟨9, 83010348331692982278⟩), (.int .i64 0)]), K := [], bl := [], gl := [], sh := [] },
  { args := [(.agg [(.int .i64 3), (.int .i64 0), (.int .u64 0), (.str ⟨0, 0⟩)])], v := (.tup [(.str ⟨9, 101457092405402533888⟩), (.int .i64 0)]), K := [], bl := [], gl := [], sh := [] },
  { args := [(.agg [(.int .i64 3), (.int .i64 0), (.int .u64 4607182418800017408), (.str ⟨0, 0⟩)])], v := (.tup [(.str ⟨9, 106064274824202551296⟩), (.int .i64 0)]), K := [], bl := [], gl := [], sh := [] },
  { args := [(.agg [(.int .i64 5), (.int .i64 0), (.int .u64 0), (.str ⟨1, 121⟩)])], v := (.tup [(.str ⟨4, 125370369⟩), (.int .i64 0)]), K := [], bl := [], gl := [], sh := [] }]
theorem m181_ok : (m181.all fun m => m.ok (runQ X (ownL base1) 100000 181 m.args m.st0)) = true := by decide +kernel
noncomputable def base2 : OL := base1 ++ ([(91, memosOwn m91)] ++ ([(124, memosOwn m124)] ++ ([(179, memosOwn m179)] ++ [(181, memosOwn m181)])))
theorem base2_ok : ∀ p ∈ base2, OwnOne Tryz.prog p.1 p.2 := more_ok base1_ok (more_ok (one_ok (memosX base1_ok m91_ok)) (more_ok (one_ok (memosX base1_ok m124_ok)) (more_ok (one_ok (memosX base1_ok m179_ok)) (one_ok (memosX base1_ok m181_ok)))))
end Go.Proofs.YtiahoioaklpnlaaGreatDoor
