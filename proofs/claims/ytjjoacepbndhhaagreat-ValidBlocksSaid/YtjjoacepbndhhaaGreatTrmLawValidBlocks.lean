import Derived.Test.YtjjoacepbndhhaaGreatTrmMelt
import Derived.Test.YtjjoacepbndhhaaGreatProg
import Derived.KernelRfl
import Derived.Test.YtjjoacepbndhhaaGreatRows
import Derived.Test.YtjjoacepbndhhaaGreatTrmPlain
import Derived.Test.YtjjoacepbndhhaaGreatTrmG1
set_option linter.unusedVariables false
set_option linter.unusedSimpArgs false
namespace Go.Trm
theorem zlZa {P:Program} {F:Blks} {w:World} (h1:P.globalNamed "internal/bytealg.MaxLen" = none) (h2:P.globalNamed "strconv.ErrSyntax" = none) (h3:P.globalNamed "strconv.ErrRange" = none):GlOk P F w:=by
 intro nm g q h4 h5;unfold glReq at h5;split at h5
 ·rename_i e;subst e;rw[h1]at h4;cases h4
 split at h5
 ·rename_i e;rcases e with e|e<;>subst e
  ·rw[h2]at h4; cases h4
  ·rw[h3]at h4; cases h4
 ·cases h5
end Go.Trm
namespace Go.Trm.G1
theorem ze1a {F:Blks} {w:World}:GlOk Go.Proofs.Tryz.prog F w:=zlZa (by kernel_rfl) (by kernel_rfl) (by kernel_rfl)
end Go.Trm.G1
namespace Go.Proofs.YtjjoacepbndhhaaGreat.validBlocks
open Go.ChangeShapes Go.WideShapes Go.ChangeAt Go.RowKit Go.Trm Go.Trm.G1
open Go.ChangeMaps (open_string shut_string)
theorem own:ownKnob Tryz.prog.godebug=none:=by kernel_rfl
theorem zkSa:laidOutB Tryz.prog=true:=by kernel_rfl
def Pure:Prop:=∀(a0:(Ty32:Ty).I) (a1:Int),okI (Ty32) a0→IntKind.i64.has a1→zKda a0 a1 Yes=some ()
theorem wt0:wt Tryz.prog (Ty32) 33=true:=by kernel_rfl
set_option maxRecDepth 100000 in
theorem zKXa (pure:Pure) (os:Os) (started:os.Started) (H:Type) (enc:TypeId×Value→H) :
  ReturnsInHanded {} Tryz.checked os 4 .any (Rows.validBlocksSpec.pre6 enc Tryz.prog Tryz.f4 Rows.validBlocksRow.domain false) (Rows.validBlocksSpec.post enc Tryz.prog Tryz.f4 false true false false):=by
 refine returnsInHanded_of_change_sized (C:=Tryz.checked) own started (by kernel_rfl) Tryz.func4
  (ChangeSpec.witness6 (enc:=enc) (C:=Tryz.checked) false ⟨#[],#[.agg #[.slice none 0 0,.slice none 0 0,.slice none 0 0,.slice none 0 0,.slice none 0 0,.slice none 0 0,.slice none 0 0,.slice none 0 0,.slice none 0 0,.slice none 0 0,.slice none 0 0,.slice none 0 0],.int .i64 0],[]⟩ 8 (by kernel_rfl) (by kernel_rfl) (by kernel_rfl) (by kernel_rfl)) ?_
 intro W base args ds gs before hval0 hW _ hsz0 _;have hsz:(DataW.weightsEach Tryz.prog (Tryz.f4.params.toList++Rows.validBlocksSpec.plain.varTypes Tryz.prog) (ds++gs)).all (·≤reachBytes)=true:=hsz0;have hval:∀(j:Nat) t v,Tryz.f4.params[j]?=some t→args[j]?=some v→Value.okWide Tryz.prog W .any base t v:=hval0;have hW':=hW;obtain ⟨p,q,hA0,hV,rfl,hfz,hnd⟩:=hW;have hA:DataW.TrodAll enc Tryz.prog W 0 (λ_=>true) true Tryz.f4.params.toList args.toList ds p:=hA0;rw[Tryz.params4]at hA hval hsz;obtain ⟨v0,vs0,d0,ds0,p0,q0,hargs,rfl,rfl,h0,r0⟩:=trodAll_cons hA;obtain ⟨v1,vs1,d1,ds1,p1,q1,rfl,rfl,rfl,h1,r1⟩:=trodAll_cons r0;obtain ⟨rfl,rfl,rfl⟩:=trodAll_nil r1;obtain rfl:args=#[v0,v1]:=by cases args; simp_all
 obtain ⟨rfl,rfl⟩:=trodVars_none hV;have lt0:∀x∈p0,x.block<W.heap.size:=by obtain ⟨m,hm⟩:=h0; exact DataW.trod_lt m _ _ _ hm
 obtain ⟨a0,y0,w0⟩:=zE1a wt0 (by decide) (hval 0 33 v0 rfl rfl) h0;obtain ⟨a1,rfl,rfl,rfl,w1⟩:=open_int Tryz.underlying3 (hval 1 3 v1 rfl rfl) h1;clear hsz0 hsz;refine (zXPa (fn:=λd K Kp=>cs_law10_ValidBlocks.fn d K Kp) zXEa (d:=(a0,a1,())) ze1a (zpwa y0 (zpwa (ziWa a1 w1) zBVa)) (pure a0 a1 w0 (zITa w1))).mono λe W' ⟨he,bel⟩=>?_
 subst he;exact ⟨_,rfl,_,_,_,[],_,[],hW',trodAll_mk1 (shut_bool Tryz.underlying4 _),(trodAll_cons_mk (Below.trod zkSa (by kernel_rfl) (of_decide_eq_true (by kernel_rfl)) h0 bel lt0) (trodAll_cons_mk (shut_int Tryz.underlying3 w1) trodAll_mk0)),rfl,bel.frame _,λh=>by cases h⟩
theorem over (pure:Pure):Rows.validBlocksRow.holds Tryz.pinned (OpenSpec.ofChange Rows.validBlocksSpec) :=
 OpenClaim.holds_of_wide 4 Tryz.f4 rfl rfl rfl rfl rfl rfl rfl ⟨rfl,rfl,rfl,rfl,rfl⟩ rfl rfl rfl rfl rfl (by kernel_rfl) Tryz.func4 (by kernel_rfl)
  (of_decide_eq_true (by kernel_rfl)) (by unfold Func.isWrapper; first|(rw[if_pos (by decide +kernel)]; kernel_rfl)|(rw[if_neg (by decide +kernel)]; exact ⟨rfl,rfl⟩))
  (λos started H enc _=>zKXa pure os started H enc)
end Go.Proofs.YtjjoacepbndhhaaGreat.validBlocks
