/- WholeImage, part 4 of 38: contracts and lemmas of its proof. Conditions: none. -/
import Derived.Test.YtaaihijkdhmcdaaGreatDoorW00
import Derived.OrdersHeld
set_option linter.unusedVariables false
set_option linter.unusedSimpArgs false
set_option maxRecDepth 100000
namespace Go.Proofs.YtaaihijkdhmcdaaGreatDoor
section
open Go
def onHeld (C:World→Prop)(K:Value→Prop)(_:Tag (C,K))(r:World→Result Next):Prop:=∃ v,(∀ w,C w→r w=.ok (.value v) w)∧K v
theorem onHeld_value {C:World→Prop}(h:Some1 C)(v:Value)(K:Value→Prop)(t:Tag (C,K)):onHeld C K t (fun w=>.ok (.value v) w)=K v:=by
 obtain ⟨w,hw⟩:=h;apply propext;constructor
 ·rintro ⟨u,h1,h2⟩;have h3:=h1 w hw;simp at h3;rw [h3];exact h2
 ·intro h;exact ⟨v,fun _ _=>rfl,h⟩
theorem onHeld_of {C:World→Prop}{K:Value→Prop}{t:Tag (C,K)}{r:World→Result Next}(v:Value)(h:∀ w,C w→r w=.ok (.value v) w)(hK:K v):onHeld C K t r:=⟨v,h,hK⟩
theorem onHeld_congr {C:World→Prop}{K:Value→Prop}{t:Tag (C,K)}{r r':World→Result Next}(h:∀ w,C w→r w=r' w):onHeld C K t r=onHeld C K t r':=by
 apply propext;constructor
 ·rintro ⟨v,h1,h2⟩;exact ⟨v,fun w hw=>by rw [← h w hw];exact h1 w hw,h2⟩
 ·rintro ⟨v,h1,h2⟩;exact ⟨v,fun w hw=>by rw [h w hw];exact h1 w hw,h2⟩
def heldR (P:Program)(n:Nat)(ops:Array Oper)(C:World→Prop)(N:Env→Prop):List Oper→Env→Prop
 | [],e=>N e
 | o::rest,e=>okDst n o.dst=true ∧
   (if wantE ops e o.guard=true then onHeld C (fun v=>heldR P n ops C N rest (putE e o.dst v)) ⟨⟩ (fun w=>(execOp (ev e) o).run P w)
    else heldR P n ops C N rest (putE e o.dst undef))
def heldE (P:Program)(n:Nat)(ops:Array Oper)(C:World→Prop)(N:Env→Prop)(l:List Oper)(_:Tag (P,n,ops,C,N,l))(e:Env):Prop:=heldR P n ops C N l e
def restR (P:Program)(n:Nat)(ops:Array Oper)(C:World→Prop)(N:Env→World→Prop):List Oper→Env→World→Prop
 | [],e,w=>N e w
 | o::rest,e,w=>okDst n o.dst=true ∧
   (if wantE ops e o.guard=true then onRes P (fun v w'=>C w'∧restR P n ops C N rest (putE e o.dst v) w') ⟨⟩ ((execOp (ev e) o).run P w)
    else C w∧restR P n ops C N rest (putE e o.dst undef) w)
def restE (P:Program)(n:Nat)(ops:Array Oper)(C:World→Prop)(N:Env→World→Prop)(l:List Oper)(_:Tag (P,n,ops,C,N,l))(e:Env)(w:World):Prop:=restR P n ops C N l e w
section
variable (P:Program) (n:Nat) (ops:Array Oper) (C:World→Prop) (N:Env→Prop) (N2:Env→World→Prop) (e:Env) (w:World)
theorem heldE_nil (t:Tag (P,n,ops,C,N,([]:List Oper))):heldE P n ops C N [] t e=endE N ⟨⟩ e:=nr rfl
theorem heldE_one (d:Nat)(op:Op)(ty:TypeId)(pos:String)(af:Array Edge)(rest:List Oper)(t:Tag (P,n,ops,C,N,(⟨some d,op,ty,pos,af,none⟩::rest:List Oper)))(hd:d<n) :
  heldE P n ops C N (⟨some d,op,ty,pos,af,none⟩::rest) t e=onHeld C (fun v=>heldE P n ops C N rest ⟨⟩ (upd e d v)) ⟨⟩ (fun w=>xOp P e ⟨some d,op,ty,pos,af,none⟩ w):=by
 simp only [heldE,heldR,okDst,wantE,hd,decide_true,true_and,if_true,putE,xOp]
theorem restE_one (d:Nat)(op:Op)(ty:TypeId)(pos:String)(af:Array Edge)(rest:List Oper)(t:Tag (P,n,ops,C,N2,(⟨some d,op,ty,pos,af,none⟩::rest:List Oper)))(hd:d<n) :
  restE P n ops C N2 (⟨some d,op,ty,pos,af,none⟩::rest) t e w=onRes P (fun v w'=>C w'∧restE P n ops C N2 rest ⟨⟩ (upd e d v) w') ⟨⟩ (xOp P e ⟨some d,op,ty,pos,af,none⟩ w):=by
 simp only [restE,restR,okDst,wantE,hd,decide_true,true_and,if_true,putE,xOp]
theorem restE_none (op:Op)(ty:TypeId)(pos:String)(af:Array Edge)(rest:List Oper)(t:Tag (P,n,ops,C,N2,(⟨none,op,ty,pos,af,none⟩::rest:List Oper))) :
  restE P n ops C N2 (⟨none,op,ty,pos,af,none⟩::rest) t e w=onRes P (fun _ w'=>C w'∧restE P n ops C N2 rest ⟨⟩ e w') ⟨⟩ (xOp P e ⟨none,op,ty,pos,af,none⟩ w):=by
 simp only [restE,restR,okDst,wantE,true_and,if_true,putE,xOp]
theorem restE_nil (x:Exit)(Q:Exit→Env→World→Prop)(t:Tag (P,n,ops,C,Q x,([]:List Oper))):restE P n ops C (Q x) [] t e w=goE Q x ⟨⟩ e w:=nr rfl
end
def noP (Q:Exit→Act→World→Prop):Exit→Act→World→Prop
 | .panic _,_,_=>False
 | x,a,w=>Q x a w
theorem restAny {P:Program}{n:Nat}{ops:Array Oper}{C:World→Prop}{md:Region.Mode}{Q:Exit→Env→World→Prop}:∀ (l:List Oper) (k:Nat) (listed:Array Bool) (e:Env) (a:Act) (w:World),(∀ j,l[j]?=ops[k+j]?) →
  Region.seqB md ops l.length k listed=true→Fits n e a→restR P n ops C (Q .normal) l e w→wpAnyH P md ops (noP (lift n Q)) C l.length listed a w
 | [],_,_,e,_,_,_,hB,hf,h=>⟨by simpa [Region.seqB] using hB,e,hf,h⟩
 | o::l,k,listed,e,a,w,hl,hB,hf,h=>by
  have h0:ops[k]?=some o:=by simpa using (hl 0).symm
  simp only [List.length_cons,Region.seqB,Bool.and_eq_true,decide_eq_true_eq] at hB;refine wpAnyH_all hB.1 (by simp) fun i hi=>?_
  have hik:i=k:=by simpa using hi
  subst hik;have ih:=fun e' a' w'=>restAny (md:=md) (C:=C) (Q:=Q) (P:=P) (n:=n) l (i+1) (listed.setIfInBounds i true) e' a' w' (fun j=>by have:=hl (j+1);simpa [Nat.add_assoc,Nat.add_comm 1 j] using this) hB.2
  obtain ⟨hd,h⟩:=h;unfold wpOp;simp only [h0];rw [wantE_eq hf];split
  ·rename_i hw;rw [if_pos hw] at h;refine .inl ?_;unfold Oper.wp;rw [hf.eval];generalize (execOp (ev e) o).run P w=r at h;cases r with
   | halt x w'=>exact h.elim
   | ok x w' =>
    cases x with
    | value v=>exact ⟨h.1,ih _ _ _ (hf.put _ v hd) h.2⟩
    | skip=>exact ⟨h.1,ih _ _ _ (hf.put _ undef hd) h.2⟩
    | enter f args =>
     refine Calls.mono h ?_;rintro x w2 ⟨v,rfl,hv⟩;exact ⟨hv.1,ih _ _ _ (hf.put _ v hd) hv.2⟩
    | _=>exact h.elim
  ·rename_i hw;rw [if_neg hw] at h;exact ⟨h.1,ih _ _ _ (hf.put _ undef hd) h.2⟩
theorem heldAny {P:Program}{n g:Nat}{ops:Array Oper}{C:World→Prop}{N:Env→Prop}{md:Region.Mode}{Q:Exit→Act→World→Prop}(hsel:Region.noSelect ops=true)(w:World)(hC:C w)
  (K:Nat→Prop) (hK:∀ k listed e a,K k→Region.seqB md ops g k listed=true→Fits n e a→N e→wpAnyH P md ops (noP Q) C g listed a w):∀ (l:List Oper) (k:Nat) (listed:Array Bool) (e:Env) (a:Act),K (k+l.length)→(∀ j,j<l.length→l[j]?=ops[k+j]?) →
  Region.lexHead md ops g l.length k listed=true→Fits n e a→heldR P n ops C N l e→wpAnyH P md ops (noP Q) C (l.length+g) listed a w
 | [],k,listed,e,a,hk,_,hB,hf,h=>by
  simpa using hK k listed e a (by simpa using hk) (by simpa [Region.lexHead] using hB) hf h
 | o::l,k,listed,e,a,hk,hl,hB,hf,h=>by
  have h0:ops[k]?=some o:=by simpa using (hl 0 (by simp)).symm
  simp only [List.length_cons,Region.lexHead,Bool.and_eq_true] at hB;obtain ⟨⟨hr,hfr⟩,hB'⟩:=hB;have ih:=fun e' a'=>heldAny (md:=md) (g:=g) hsel w hC K hK l (k+1) (listed.setIfInBounds k true) e' a' (by simpa [Nat.add_assoc,Nat.add_comm 1] using hk) (fun j hj=>by have:=hl (j+1) (by simp;omega);simpa [Nat.add_assoc,Nat.add_comm 1 j] using this) hB'
  obtain ⟨hd,h⟩:=h;rw [List.length_cons,show l.length+1+g=l.length+g+1 by omega];by_cases hw:wantE ops e o.guard=true
  ·rw [if_pos hw] at h;obtain ⟨v,h1,h2⟩:=h;refine wpAnyH_take h0 hsel hfr hr (fun _ _ _ h=>h) (.inl ⟨by rw [wantE_eq hf];exact hw,fun w hw=>?_⟩) hC (ih _ _ (hf.put _ v hd) h2);rw [hf.eval];exact h1 w hw
  ·rw [if_neg hw] at h;exact wpAnyH_take h0 hsel hfr hr (fun _ _ _ h=>h) (.inr ⟨by rw [wantE_eq hf];simpa using hw,rfl⟩) hC (ih _ _ (hf.put _ undef hd) h)
def Region.heldB (ops:Array Oper)(k:Nat):Bool:=Region.noSelect ops&&decide (k≤ops.size)&&Region.lexHead .any ops (ops.size-k) k 0 (Array.replicate ops.size false)
theorem drawE_held {P:Program}{n id:Nat}{l l1 l2:List Oper}{Q:Exit→Env→World→Prop}{t:Tag (P,n,Code.region id l.toArray true,Q)}{e:Env}{w:World}(k:Nat)(C:World→Prop)(hm:P.follows .mixedOrders=true)(hB:Region.heldB l.toArray k=true)
  (h1:l.take k=l1) (h2:l.drop k=l2) (hC:C w.drew)
  (h:Some1 C→heldE P n l.toArray C (fun e'=>restE P n l.toArray C (Q .normal) l2 ⟨⟩ e' w.drew) l1 ⟨⟩ e):wpE P n (.region id l.toArray true) Q t e w:=by
 subst h1;subst h2;simp only [wpE,wpR];intro a hf;simp only [Region.heldB,Bool.and_eq_true,decide_eq_true_eq] at hB;obtain ⟨⟨hsel,hn⟩,hlex⟩:=hB;have hn':k≤l.length:=by simpa using hn
 have htl:(l.take k).length=k:=by simp;omega
 have hdl:(l.drop k).length=l.toArray.size-k:=by simp
 have H:=heldAny (P:=P) (n:=n) (Q:=lift n Q) (md:=.any) (g:=l.toArray.size-k) hsel w.drew hC (fun j=>j=k) (fun j listed e a hj hB hf h=>by
  subst hj;have:=restAny (md:=.any) (l.drop j) j listed e a w.drew (fun i=>by simp [List.getElem?_drop]) (by rw [hdl];exact hB) hf h;rw [hdl] at this;exact this) (l.take k) 0 _ e a (by simpa using htl) (fun j hj=>by
   have hj':j<k:=by rw [htl] at hj;exact hj
   simp [hj']) (by rw [htl];exact hlex) hf (h ⟨_,hC⟩)
 rw [htl,show k+(l.toArray.size-k)=l.toArray.size by simp;omega] at H;refine Code.wp_mono ?_ (wp_region_held hm H);intro x a w h;cases x<;>first|exact h|exact h.elim
attribute [congr] onHeld_congr
attribute [go_sem] onHeld_value heldE_nil heldE_one restE_one restE_none restE_nil
end
section
open Go
def upStep (md:Region.Mode)(ops:Array Oper)(M:List Nat)(j:Nat):List Nat:=if M.any (fun k=>Region.waitsFor md ops j k) then j::M else M
def upB (md:Region.Mode)(ops:Array Oper)(i:Nat):List Nat:=(List.range ops.size).foldl (upStep md ops) [i]
def ClosedL (md:Region.Mode)(ops:Array Oper)(listed:Array Bool):Prop:=∀ j oj,ops[j]?=some oj→listed.getD j false=true→∀ e∈oj.after,Region.binds md e=true→listed.getD e.on false=true
section
variable {P:Program} {ops:Array Oper} {Q:Exit→Act→World→Prop} {md:Region.Mode} {D:Nat→World→Prop}
theorem ClosedL.none:ClosedL md ops (Array.replicate ops.size false):=fun j oj _ h=>by rw [getD_replicate_false] at h;cases h
theorem ClosedL.set {i:Nat}{listed:Array Bool}(h:ClosedL md ops listed)(hi:i∈Region.ready md ops listed):ClosedL md ops (listed.setIfInBounds i true):=by
 intro j oj hj hl e he hb;by_cases hij:i=j
 ·subst hij;obtain ⟨_,oi,hoi,hall⟩:=mem_ready.1 hi;obtain rfl:oj=oi:=Option.some.inj (hj.symm.trans hoi);exact getD_set_true (hall e he hb)
 ·rw [getD_set_ne false hij] at hl;exact getD_set_true (h j oj hj hl e he hb)
theorem up_unlisted {listed:Array Bool}(h:ClosedL md ops listed){i:Nat}(hi:listed.getD i false=false):∀ j∈upB md ops i,listed.getD j false=false∧(j=i∨j∉Region.ready md ops listed):=by
 unfold upB;have hstep:∀ (l:List Nat) (M:List Nat),(∀ j∈M,listed.getD j false=false∧(j=i∨j∉Region.ready md ops listed))→∀ j∈l.foldl (upStep md ops) M,listed.getD j false=false∧(j=i∨j∉Region.ready md ops listed):=by
  intro l
  induction l with
  | nil=>intro M hM;exact hM
  | cons x l ih =>
   intro M hM;refine ih _ (fun j hj=>?_);unfold upStep at hj;split at hj
   ·rename_i hw
    rcases List.mem_cons.1 hj with rfl|hj
    ·obtain ⟨k,hk,hwk⟩:=List.any_eq_true.1 hw;obtain ⟨oj,hoj,e,he,hb,hon⟩:=Region.waitsFor_spec hwk;have hk0:=(hM k hk).1;constructor
     ·cases hl:listed.getD j false with
      | false=>rfl
      | true=>have:=h j oj hoj hl e he hb;rw [hon,hk0] at this;cases this
     ·right;intro hr;obtain ⟨_,o',ho',hall⟩:=mem_ready.1 hr;obtain rfl:oj=o':=Option.some.inj (hoj.symm.trans ho');have:=hall e he hb;rw [hon,hk0] at this;cases this
    ·exact hM j hj
   ·exact hM j hj
 exact hstep _ [i] (fun j hj=>by rw [List.mem_singleton.1 hj];exact ⟨hi,.inl rfl⟩)
def wpAnyT (P:Program)(md:Region.Mode)(ops:Array Oper)(Q:Exit→Act→World→Prop)(D:Nat→World→Prop):Nat→Array Bool→Act→World→Prop
 | 0,listed,a,w=>Region.ready md ops listed=[]∧Q .normal a w
 | fuel+1,listed,a,w =>
  (Region.ready md ops listed=[]→Q .normal a w) ∧
  ∀ i∈Region.ready md ops listed,wpOp P ops Q i (fun a' w'=>D i w'∧wpAnyT P md ops Q D fuel (listed.setIfInBounds i true) a' w') a w
theorem wpAny_of_T:∀ (fuel:Nat) (listed:Array Bool) (a:Act) (w:World),wpAnyT P md ops Q D fuel listed a w→wpAny P md ops Q fuel listed a w
 | 0,_,_,_,h=>h
 | fuel+1,_,_,_,h=>⟨h.1,fun i hi=>wpOp_mono (fun a' w' h'=>wpAny_of_T fuel _ a' w' h'.2) (h.2 i hi)⟩
theorem wpAnyT_first {i:Nat}{oi:Oper}{v:Value}{S:World→Prop}(hi:ops[i]?=some oi)(hsel:∀ (j:Nat) (o:Oper) cs b,ops[j]?=some o→o.op≠.select cs b)
  (hQ:∀ c a w,Q (.panic c) (a.put oi.dst v) w→Q (.panic c) a w) (hD:∀ w,S w→D i w) (hup:∀ j,j∉upB md ops i→∀ w,D j w→S w) :
  ∀ (fuel:Nat) (listed:Array Bool) (a:Act) (w:World),ClosedL md ops listed →
   (∀ j oj,ops[j]?=some oj→j≠i→listed.getD j true=false→(∀ e∈oj.after,Region.binds md e=true→e.on≠i)→oi.apart ops oj=true) →
   i∈Region.ready md ops listed→YieldsIf P ops S oi v a→S w →
   wpAnyT P md ops Q D fuel (listed.setIfInBounds i true) (a.put oi.dst v) w→wpAnyT P md ops Q D (fuel+1) listed a w:=by
 intro fuel
 induction fuel with
 | zero =>
  intro listed a w _ _ hr hy hS H;refine ⟨fun h=>(by rw [h] at hr;cases hr),fun j hj=>?_⟩;by_cases hji:j=i
  ·subst hji;exact hy.wpOp hi hS ⟨hD w hS,H⟩
  ·have:=ready_mono hj hji;rw [H.1] at this;cases this
 | succ fuel ih =>
  intro listed a w hcl hfree hr hy hS H;refine ⟨fun h=>(by rw [h] at hr;cases hr),fun j hj=>?_⟩;by_cases hji:j=i
  ·subst hji;exact hy.wpOp hi hS ⟨hD w hS,H⟩
  ·have h1:=H.2 j (ready_mono hj hji);obtain ⟨hjun,oj,hoj,hall⟩:=mem_ready.1 hj;have hi0:listed.getD i false=false:=getD_both (mem_ready.1 hr).1;have hnotup:j∉upB md ops i:=fun hu=>by
    rcases (up_unlisted hcl hi0 j hu).2 with h|h
    ·exact hji h
    ·exact h hj
   have hnot:∀ e∈oj.after,Region.binds md e=true→e.on≠i:=fun e he hb heq=>by
    have h2:=hall e he hb;rw [heq,hi0] at h2;cases h2
   have h2:=wpOp_putIf hoj (hfree j oj hoj hji hjun hnot) (fun cs b=>hsel i oi cs b hi) (fun cs b=>hsel j oj cs b hoj) hQ hy h1;refine wpOp_mono (fun a' w' h3=>⟨h3.2.1,ih (listed.setIfInBounds j true) a' w' (hcl.set hj) (fun k ok hk hki hun hno=>hfree k ok hk hki ?_ hno) (ready_mono hr (Ne.symm hji)) h3.1 (hup j hnotup w' h3.2.1) ?_⟩) h2
   ·by_cases hjk:j=k
    ·subst hjk;exact hjun
    ·rw [getD_set_ne true hjk] at hun;exact hun
   ·rw [Array.setIfInBounds_comm _ _ hji];exact h3.2.2
theorem wpAnyT_all {rs:List Nat}{fuel:Nat}{listed:Array Bool}{a:Act}{w:World}(hr:Region.ready md ops listed=rs)(hne:rs≠[])
  (h:∀ i∈rs,wpOp P ops Q i (fun a' w'=>D i w'∧wpAnyT P md ops Q D fuel (listed.setIfInBounds i true) a' w') a w):wpAnyT P md ops Q D (fuel+1) listed a w :=
 ⟨fun h0=>absurd (hr▸h0) hne,hr▸h⟩
end
def seqJ (md:Region.Mode)(ops:Array Oper):List Nat→Array Bool→Bool
 | [],listed=>(Region.ready md ops listed).isEmpty
 | j::js,listed=>decide (Region.ready md ops listed=[j])&&seqJ md ops js (listed.setIfInBounds j true)
def permB (md:Region.Mode)(ops:Array Oper)(js jb:List Nat):List Nat→Array Bool→Bool
 | [],listed=>seqJ md ops (js++jb) listed
 | i::is,listed=>(Region.ready md ops listed).contains i&&Region.free md ops listed i&&(jb.all fun t=>(upB md ops i).contains t)&&permB md ops js jb is (listed.setIfInBounds i true)
def askT (jb:List Nat)(C:World→Prop)(i:Nat)(w:World):Prop:=i∈jb∨C w
theorem restAnyT {P:Program}{n:Nat}{ops:Array Oper}{C:World→Prop}{jb:List Nat}{md:Region.Mode}{Q:Exit→Env→World→Prop}:∀ (l:List Oper) (js:List Nat) (listed:Array Bool) (e:Env) (a:Act) (w:World),(∀ j∈js,j∈jb)→js.map (fun j=>ops[j]?)=l.map some →
  seqJ md ops js listed=true→Fits n e a→opsR P n ops (Q .normal) l e w→wpAnyT P md ops (noP (lift n Q)) (askT jb C) l.length listed a w
 | [],js,listed,e,a,w,_,hl,hB,hf,h=>by
  obtain rfl:js=[]:=by simpa using hl
  exact ⟨by simpa [seqJ] using hB,e,hf,h⟩
 | o::l,[],_,_,_,_,_,hl,_,_,_=>by simp at hl
 | o::l,j::js,listed,e,a,w,hj,hl,hB,hf,h=>by
  simp only [List.map_cons,List.cons.injEq] at hl;obtain ⟨h0,hl⟩:=hl;simp only [seqJ,Bool.and_eq_true,decide_eq_true_eq] at hB;refine wpAnyT_all hB.1 (by simp) fun i hi=>?_
  have hik:i=j:=by simpa using hi
  subst hik;have hD:∀ w,askT jb C i w:=fun w=>.inl (hj i List.mem_cons_self)
  have ih:=fun e' a' w'=>restAnyT (C:=C) (md:=md) (Q:=Q) (P:=P) (n:=n) l js (listed.setIfInBounds i true) e' a' w' (fun k hk=>hj k (List.mem_cons_of_mem _ hk)) hl hB.2
  obtain ⟨hd,h⟩:=h;unfold wpOp;simp only [h0];rw [wantE_eq hf];split
  ·rename_i hw;rw [if_pos hw] at h;refine .inl ?_;unfold Oper.wp;rw [hf.eval];generalize (execOp (ev e) o).run P w=r at h;cases r with
   | halt x w'=>exact h.elim
   | ok x w' =>
    cases x with
    | value v=>exact ⟨hD _,ih _ _ _ (hf.put _ v hd) h⟩
    | skip=>exact ⟨hD _,ih _ _ _ (hf.put _ undef hd) h⟩
    | enter f args =>
     refine Calls.mono h ?_;rintro x w2 ⟨v,rfl,hv⟩;exact ⟨hD _,ih _ _ _ (hf.put _ v hd) hv⟩
    | _=>exact h.elim
  ·rename_i hw;rw [if_neg hw] at h;exact ⟨hD _,ih _ _ _ (hf.put _ undef hd) h⟩
theorem restAnyP {P:Program}{n:Nat}{ops:Array Oper}{C:World→Prop}{jb:List Nat}{md:Region.Mode}{Q:Exit→Env→World→Prop}{lb:List Oper}(hlb:jb.map (fun j=>ops[j]?)=lb.map some):∀ (l:List Oper) (js:List Nat) (listed:Array Bool) (e:Env) (a:Act) (w:World),js.map (fun j=>ops[j]?)=l.map some →
  seqJ md ops (js++jb) listed=true→Fits n e a→restR P n ops C (opsR P n ops (Q .normal) lb) l e w→wpAnyT P md ops (noP (lift n Q)) (askT jb C) (l.length+lb.length) listed a w
 | [],js,listed,e,a,w,hl,hB,hf,h=>by
  obtain rfl:js=[]:=by simpa using hl
  simp only [List.length_nil,Nat.zero_add];exact restAnyT lb jb listed e a w (fun j hj=>hj) hlb (by simpa using hB) hf h
 | o::l,[],_,_,_,_,hl,_,_,_=>by simp at hl
 | o::l,j::js,listed,e,a,w,hl,hB,hf,h=>by
  simp only [List.map_cons,List.cons.injEq] at hl;obtain ⟨h0,hl⟩:=hl;simp only [List.cons_append,seqJ,Bool.and_eq_true,decide_eq_true_eq] at hB;rw [List.length_cons,show l.length+1+lb.length=l.length+lb.length+1 by omega];refine wpAnyT_all hB.1 (by simp) fun i hi=>?_
  have hik:i=j:=by simpa using hi
  subst hik;have ih:=fun e' a' w'=>restAnyP (md:=md) (C:=C) (Q:=Q) (P:=P) (n:=n) hlb l js (listed.setIfInBounds i true) e' a' w' hl hB.2
  obtain ⟨hd,h⟩:=h;unfold wpOp;simp only [h0];rw [wantE_eq hf];split
  ·rename_i hw;rw [if_pos hw] at h;refine .inl ?_;unfold Oper.wp;rw [hf.eval];generalize (execOp (ev e) o).run P w=r at h;cases r with
   | halt x w'=>exact h.elim
   | ok x w' =>
    cases x with
    | value v=>exact ⟨.inr h.1,ih _ _ _ (hf.put _ v hd) h.2⟩
    | skip=>exact ⟨.inr h.1,ih _ _ _ (hf.put _ undef hd) h.2⟩
    | enter f args =>
     refine Calls.mono h ?_;rintro x w2 ⟨v,rfl,hv⟩;exact ⟨.inr hv.1,ih _ _ _ (hf.put _ v hd) hv.2⟩
    | _=>exact h.elim
  ·rename_i hw;rw [if_neg hw] at h;exact ⟨.inr h.1,ih _ _ _ (hf.put _ undef hd) h.2⟩
theorem heldAnyP {P:Program}{n g:Nat}{ops:Array Oper}{C:World→Prop}{N:Env→Prop}{md:Region.Mode}{Q:Exit→Act→World→Prop}{js jb:List Nat}(hsel:Region.noSelect ops=true)(w:World)(hC:C w)
  (hK:∀ listed e a,seqJ md ops (js++jb) listed=true→Fits n e a→N e→wpAnyT P md ops (noP Q) (askT jb C) g listed a w):∀ (l:List Oper) (is:List Nat) (listed:Array Bool) (e:Env) (a:Act),ClosedL md ops listed→is.map (fun j=>ops[j]?)=l.map some →
  permB md ops js jb is listed=true→Fits n e a→heldR P n ops C N l e→wpAnyT P md ops (noP Q) (askT jb C) (l.length+g) listed a w
 | [],is,listed,e,a,_,hl,hB,hf,h=>by
  obtain rfl:is=[]:=by simpa using hl
  simpa using hK listed e a (by simpa [permB] using hB) hf h
 | o::l,[],_,_,_,_,hl,_,_,_=>by simp at hl
 | o::l,i::is,listed,e,a,hcl,hl,hB,hf,h=>by
  simp only [List.map_cons,List.cons.injEq] at hl;obtain ⟨h0,hl⟩:=hl;simp only [permB,Bool.and_eq_true] at hB;obtain ⟨⟨⟨hr,hfr⟩,hj⟩,hB'⟩:=hB;have hr':i∈Region.ready md ops listed:=by simpa using hr
  have ih:=fun e' a'=>heldAnyP (md:=md) (g:=g) hsel w hC hK l is (listed.setIfInBounds i true) e' a' (hcl.set hr') hl hB'
  obtain ⟨hd,h⟩:=h;rw [List.length_cons,show l.length+1+g=l.length+g+1 by omega];have first:=fun v (hy:YieldsIf P ops C o v a) hH=>wpAnyT_first (P:=P) (Q:=noP Q) (D:=askT jb C) (S:=C) (v:=v) h0 (Region.noSelect_spec hsel) (fun _ _ _ h=>h) (fun w h=>.inr h)
   (fun j hju w hDj=>by
    rcases hDj with h|h
    ·have:=List.all_eq_true.1 hj j h;exact absurd (by simpa using this) hju
    ·exact h) (l.length+g) listed a w hcl (Region.free_spec h0 hfr) hr' hy hC hH
  by_cases hw:wantE ops e o.guard=true
  ·rw [if_pos hw] at h;obtain ⟨v,h1,h2⟩:=h;refine first v (.inl ⟨by rw [wantE_eq hf];exact hw,fun w hw=>?_⟩) (ih _ _ (hf.put _ v hd) h2)
   rw [hf.eval];exact h1 w hw
  ·rw [if_neg hw] at h;exact first undef (.inr ⟨by rw [wantE_eq hf];simpa using hw,rfl⟩) (ih _ _ (hf.put _ undef hd) h)
theorem filterMap_map (l:List Oper):∀ (is:List Nat),(is.all fun j=>decide (j<l.length))=true→is.map (fun j=>l.toArray[j]?)=(is.filterMap (fun j=>l[j]?)).map some
 | [],_=>rfl
 | i::is,h=>by
  simp only [List.all_cons,Bool.and_eq_true,decide_eq_true_eq] at h;have h1:l[i]?=some l[i]:=by simp [h.1]
  rw [List.map_cons,filterMap_map l is h.2,List.filterMap_cons,h1,List.getElem?_toArray,h1];rfl
theorem drawE_perm {P:Program}{n id:Nat}{l l1 l2 l3:List Oper}{Q:Exit→Env→World→Prop}{t:Tag (P,n,Code.region id l.toArray true,Q)}{e:Env}{w:World}(is js jb:List Nat)(C:World→Prop)(hm:P.follows .mixedOrders=true)
  (hB:(Region.noSelect l.toArray&&permB .any l.toArray js jb is (Array.replicate l.toArray.size false))=true)
  (hv:((is.all fun j=>decide (j<l.length))&&(js.all fun j=>decide (j<l.length))&&(jb.all fun j=>decide (j<l.length))&&decide (is.length+js.length+jb.length=l.length))=true)
  (h1:is.filterMap (fun j=>l[j]?)=l1) (h2:js.filterMap (fun j=>l[j]?)=l2) (h3:jb.filterMap (fun j=>l[j]?)=l3) (hC:C w.drew)
  (h:Some1 C→heldE P n l.toArray C (fun e'=>restE P n l.toArray C (opsR P n l.toArray (Q .normal) l3) l2 ⟨⟩ e' w.drew) l1 ⟨⟩ e):wpE P n (.region id l.toArray true) Q t e w:=by
 simp only [wpE,wpR];intro a hf;rw [Bool.and_eq_true] at hB;simp only [Bool.and_eq_true,decide_eq_true_eq] at hv;have m1:=filterMap_map l is hv.1.1.1;have m2:=filterMap_map l js hv.1.1.2;have m3:=filterMap_map l jb hv.1.2;rw [h1] at m1;rw [h2] at m2;rw [h3] at m3;have hlen:l1.length+(l2.length+l3.length)=l.length:=by
  have e1:=congrArg List.length m1;have e2:=congrArg List.length m2;have e3:=congrArg List.length m3;simp only [List.length_map] at e1 e2 e3;omega
 have H:=heldAnyP (P:=P) (n:=n) (Q:=lift n Q) (md:=.any) (g:=l2.length+l3.length) (js:=js) (jb:=jb) hB.1 w.drew hC (fun listed e a hB hf h=>restAnyP m3 l2 js listed e a w.drew m2 hB hf h) l1 is _ e a ClosedL.none m1 hB.2 hf (h ⟨_,hC⟩);rw [show l1.length+(l2.length+l3.length)=l.toArray.size by simpa using hlen] at H;refine Code.wp_mono ?_ (wp_region_any hm (wpAny_of_T _ _ _ _ H));intro x a w h;cases x<;>first|exact h|exact h.elim
theorem restE_last (P:Program)(n:Nat)(ops:Array Oper)(C:World→Prop)(l3:List Oper)(x:Exit)(Q:Exit→Env→World→Prop)(e:Env)(w:World)(t:Tag (P,n,ops,C,opsR P n ops (Q x) l3,([]:List Oper))):restE P n ops C (opsR P n ops (Q x) l3) [] t e w=opsE P n ops (Q x) l3 ⟨⟩ e w:=nr rfl
attribute [go_sem] restE_last
end
section
open Go
section
variable {P:Program} {ops:Array Oper} {Q:Exit→Act→World→Prop} {md:Region.Mode}
def wpAnyD (P:Program)(md:Region.Mode)(ops:Array Oper)(Q:Exit→Act→World→Prop)(D:Nat→World→World→Prop):Nat→Array Bool→Act→World→Prop
 | 0,listed,a,w=>Region.ready md ops listed=[]∧Q .normal a w
 | fuel+1,listed,a,w =>
  (Region.ready md ops listed=[]→Q .normal a w) ∧
  ∀ i∈Region.ready md ops listed,wpOp P ops Q i (fun a' w'=>D i w w'∧wpAnyD P md ops Q D fuel (listed.setIfInBounds i true) a' w') a w
theorem wpAny_of_D {D:Nat→World→World→Prop}:∀ (fuel:Nat) (listed:Array Bool) (a:Act) (w:World),wpAnyD P md ops Q D fuel listed a w→wpAny P md ops Q fuel listed a w
 | 0,_,_,_,h=>h
 | fuel+1,_,_,_,h=>⟨h.1,fun i hi=>wpOp_mono (fun a' w' h'=>wpAny_of_D fuel _ a' w' h'.2) (h.2 i hi)⟩
theorem wpAnyD_first {D D':Nat→World→World→Prop}{i:Nat}{oi:Oper}{v:Value}{S:World→Prop}(hi:ops[i]?=some oi)(hsel:∀ (j:Nat) (o:Oper) cs b,ops[j]?=some o→o.op≠.select cs b)
  (hQ:∀ c a w,Q (.panic c) (a.put oi.dst v) w→Q (.panic c) a w) (hD:∀ w,D i w w) (hup:∀ j,j∉upB md ops i→∀ w w',S w→D' j w w'→S w') (hDD:∀ j w w',D' j w w'→D j w w') :
  ∀ (fuel:Nat) (listed:Array Bool) (a:Act) (w:World),ClosedL md ops listed →
   (∀ j oj,ops[j]?=some oj→j≠i→listed.getD j true=false→(∀ e∈oj.after,Region.binds md e=true→e.on≠i)→oi.apart ops oj=true) →
   i∈Region.ready md ops listed→YieldsIf P ops S oi v a→S w →
   wpAnyD P md ops Q D' fuel (listed.setIfInBounds i true) (a.put oi.dst v) w→wpAnyD P md ops Q D (fuel+1) listed a w:=by
 have mono:∀ (fuel:Nat) (listed:Array Bool) (a:Act) (w:World),wpAnyD P md ops Q D' fuel listed a w→wpAnyD P md ops Q D fuel listed a w:=by
  intro fuel
  induction fuel with
  | zero=>exact fun _ _ _ h=>h
  | succ fuel ih=>exact fun _ _ _ h=>⟨h.1,fun j hj=>wpOp_mono (fun a' w' h'=>⟨hDD j _ _ h'.1,ih _ _ _ h'.2⟩) (h.2 j hj)⟩
 intro fuel
 induction fuel with
 | zero =>
  intro listed a w _ _ hr hy hS H;refine ⟨fun h=>(by rw [h] at hr;cases hr),fun j hj=>?_⟩;by_cases hji:j=i
  ·subst hji;exact hy.wpOp hi hS ⟨hD w,H⟩
  ·have:=ready_mono hj hji;rw [H.1] at this;cases this
 | succ fuel ih =>
  intro listed a w hcl hfree hr hy hS H;refine ⟨fun h=>(by rw [h] at hr;cases hr),fun j hj=>?_⟩;by_cases hji:j=i
  ·subst hji;exact hy.wpOp hi hS ⟨hD w,mono _ _ _ _ H⟩
  ·have h1:=H.2 j (ready_mono hj hji);obtain ⟨hjun,oj,hoj,hall⟩:=mem_ready.1 hj;have hi0:listed.getD i false=false:=getD_both (mem_ready.1 hr).1;have hnotup:j∉upB md ops i:=fun hu=>by
    rcases (up_unlisted hcl hi0 j hu).2 with h|h
    ·exact hji h
    ·exact h hj
   have hnot:∀ e∈oj.after,Region.binds md e=true→e.on≠i:=fun e he hb heq=>by
    have h2:=hall e he hb;rw [heq,hi0] at h2;cases h2
   have h2:=wpOp_putIf hoj (hfree j oj hoj hji hjun hnot) (fun cs b=>hsel i oi cs b hi) (fun cs b=>hsel j oj cs b hoj) hQ hy h1;refine wpOp_mono (fun a' w' h3=>⟨hDD j _ _ h3.2.1,ih (listed.setIfInBounds j true) a' w' (hcl.set hj) (fun k ok hk hki hun hno=>hfree k ok hk hki ?_ hno) (ready_mono hr (Ne.symm hji)) h3.1 (hup j hnotup w w' hS h3.2.1) ?_⟩) h2
   ·by_cases hjk:j=k
    ·subst hjk;exact hjun
    ·rw [getD_set_ne true hjk] at hun;exact hun
   ·rw [Array.setIfInBounds_comm _ _ hji];exact h3.2.2
end
inductive MStep
 | pure (i:Nat)
 | take (i:Nat)
 | run (i:Nat) (need:List Nat)
def mixC (md:Region.Mode)(ops:Array Oper)(fin:List Nat→Array Bool→Bool):List MStep→List Nat→Array Bool→Bool
 | [],tk,listed=>fin tk listed
 | .pure i::st,tk,listed=>(Region.ready md ops listed).contains i&&Region.free md ops listed i&&mixC md ops fin st tk (listed.setIfInBounds i true)
 | .take i::st,tk,listed=>(Region.ready md ops listed).contains i&&Region.free md ops listed i&&mixC md ops fin st (i::tk) (listed.setIfInBounds i true)
 | .run j need::st,tk,listed=>decide (Region.ready md ops listed=[j])&&(tk.all fun i=>(upB md ops i).contains j || need.contains i)&&mixC md ops fin st tk (listed.setIfInBounds j true)
def endB (md:Region.Mode)(ops:Array Oper)(_:List Nat)(listed:Array Bool):Bool:=(Region.ready md ops listed).isEmpty
def mixB (md:Region.Mode)(ops:Array Oper):List MStep→List Nat→Array Bool→Bool:=mixC md ops (endB md ops)
def altB (md:Region.Mode)(ops:Array Oper)(i:Nat)(ni:List Nat)(s1:List MStep)(j:Nat)(nj:List Nat)(s2:List MStep)(tk:List Nat)(listed:Array Bool):Bool :=
 decide (Region.ready md ops listed=[i,j])&&(tk.all fun k=>(upB md ops k).contains i || ni.contains k)&&(tk.all fun k=>(upB md ops k).contains j || nj.contains k) &&
  mixB md ops s1 tk (listed.setIfInBounds i true)&&mixB md ops s2 tk (listed.setIfInBounds j true)
def askR:List (Nat × (World→Prop))→List Nat→World→Prop
 | [],_,_=>True
 | (i,S)::Ds,need,w=>(i∈need→S w)∧askR Ds need w
def askD (md:Region.Mode)(ops:Array Oper)(Ds:List (Nat × (World→Prop)))(j:Nat)(w w':World):Prop:=w'=w∨∀ p∈Ds,j∈upB md ops p.1∨p.2 w'
theorem askD_of {md:Region.Mode}{ops:Array Oper}{j:Nat}{need:List Nat}{w w':World}:∀ (Ds:List (Nat × (World→Prop))),((Ds.map (·.1)).all fun i=>(upB md ops i).contains j || need.contains i)=true→(w'=w∨askR Ds need w')→askD md ops Ds j w w'
 | Ds,h,h2=>by
  rcases h2 with h2|h2
  ·exact .inl h2
  right
  induction Ds with
  | nil=>intro p hp;cases hp
  | cons q Ds ih =>
   intro p hp;simp only [List.map_cons,List.all_cons,Bool.and_eq_true,Bool.or_eq_true] at h;obtain ⟨k1,k2⟩:=h2
   rcases List.mem_cons.1 hp with rfl|hp
   ·rcases h.1 with h|h
    ·left;simpa using h
    ·right;exact k1 (by simpa using h)
   ·exact ih h.2 k2 p hp
def onPure (K:Value→Prop)(_:Tag K)(r:World→Result Next):Prop:=∃ v,(∀ w,r w=.ok (.value v) w)∧K v
def onTake (w:World)(K:(World→Prop)→Value→Prop)(_:Tag (w,K))(r:World→Result Next):Prop:=∃ S v,S w∧(∀ w,S w→r w=.ok (.value v) w)∧K S v
theorem onTake_of {w:World}{K:(World→Prop)→Value→Prop}{t:Tag (w,K)}{r:World→Result Next}(S:World→Prop)(v:Value)(hS:S w)(h:∀ w,S w→r w=.ok (.value v) w)(hK:K S v):onTake w K t r:=⟨S,v,hS,h,hK⟩
def aWorld:World:=⟨#[],fun _ _=>0,0,default,#[]⟩
theorem onPure_value (v:Value)(K:Value→Prop)(t:Tag K):onPure K t (fun w=>.ok (.value v) w)=K v:=by
 apply propext;constructor
 ·rintro ⟨u,h1,h2⟩;have h3:=h1 aWorld;simp at h3;rw [h3];exact h2
 ·intro h;exact ⟨v,fun _=>rfl,h⟩
theorem onPure_congr {K:Value→Prop}{t:Tag K}{r r':World→Result Next}(h:∀ w,r w=r' w):onPure K t r=onPure K t r':=by
 rw [show r=r' from funext h]
def mixR (P:Program)(n:Nat)(ops:Array Oper)(N:List (Nat × (World→Prop))→Env→World→Prop):List (MStep × Oper)→List (Nat × (World→Prop))→Env→World→Prop
 | [],Ds,e,w=>N Ds e w
 | (.pure _,o)::st,Ds,e,w=>okDst n o.dst=true ∧
   (if wantE ops e o.guard=true then onPure (fun v=>mixR P n ops N st Ds (putE e o.dst v) w) ⟨⟩ (fun w=>(execOp (ev e) o).run P w)
    else mixR P n ops N st Ds (putE e o.dst undef) w)
 | (.take i,o)::st,Ds,e,w=>okDst n o.dst=true ∧
   (if wantE ops e o.guard=true then onTake w (fun S v=>mixR P n ops N st ((i,S)::Ds) (putE e o.dst v) w) ⟨⟩ (fun w=>(execOp (ev e) o).run P w)
    else mixR P n ops N st ((i,fun _=>True)::Ds) (putE e o.dst undef) w)
 | (.run _ need,o)::st,Ds,e,w=>okDst n o.dst=true ∧
   (if wantE ops e o.guard=true then onRes P (fun v w'=>(w'=w∨askR Ds need w')∧mixR P n ops N st Ds (putE e o.dst v) w') ⟨⟩ ((execOp (ev e) o).run P w)
    else mixR P n ops N st Ds (putE e o.dst undef) w)
def mixE (P:Program)(n:Nat)(ops:Array Oper)(N:List (Nat × (World→Prop))→Env→World→Prop)(st:List (MStep × Oper))(Ds:List (Nat × (World→Prop)))(_:Tag (P,n,ops,N,st))(e:Env)(w:World):Prop:=mixR P n ops N st Ds e w
def endN (K:Env→World→Prop)(_:List (Nat × (World→Prop))):Env→World→Prop:=K
def altN (P:Program)(n:Nat)(ops:Array Oper)(K:Env→World→Prop)(s1 s2:List (MStep × Oper))(Ds:List (Nat × (World→Prop)))(e:Env)(w:World):Prop :=
 mixE P n ops (endN K) s1 Ds ⟨⟩ e w∧mixE P n ops (endN K) s2 Ds ⟨⟩ e w
section
variable (P:Program) (n:Nat) (ops:Array Oper) (N:List (Nat × (World→Prop))→Env→World→Prop) (Ds:List (Nat × (World→Prop))) (e:Env) (w:World) (st:List (MStep × Oper))
theorem mixE_nil (x:Exit)(Q:Exit→Env→World→Prop)(t:Tag (P,n,ops,endN (Q x),([]:List (MStep × Oper)))):mixE P n ops (endN (Q x)) [] Ds t e w=goE Q x ⟨⟩ e w:=nr rfl
theorem mixE_alt (K:Env→World→Prop)(s1 s2:List (MStep × Oper))(t:Tag (P,n,ops,altN P n ops K s1 s2,([]:List (MStep × Oper)))):mixE P n ops (altN P n ops K s1 s2) [] Ds t e w=(mixE P n ops (endN K) s1 Ds ⟨⟩ e w∧mixE P n ops (endN K) s2 Ds ⟨⟩ e w):=nr rfl
theorem mixE_pure (i d:Nat)(op:Op)(ty:TypeId)(pos:String)(af:Array Edge)(t:Tag (P,n,ops,N,((.pure i,⟨some d,op,ty,pos,af,none⟩)::st:List (MStep × Oper))))(hd:d<n) :
  mixE P n ops N ((.pure i,⟨some d,op,ty,pos,af,none⟩)::st) Ds t e w=onPure (fun v=>mixE P n ops N st Ds ⟨⟩ (upd e d v) w) ⟨⟩ (fun w=>xOp P e ⟨some d,op,ty,pos,af,none⟩ w):=by
 simp only [mixE,mixR,okDst,wantE,hd,decide_true,true_and,if_true,putE,xOp]
theorem mixE_take (i d:Nat)(op:Op)(ty:TypeId)(pos:String)(af:Array Edge)(t:Tag (P,n,ops,N,((.take i,⟨some d,op,ty,pos,af,none⟩)::st:List (MStep × Oper))))(hd:d<n) :
  mixE P n ops N ((.take i,⟨some d,op,ty,pos,af,none⟩)::st) Ds t e w=onTake w (fun S v=>mixE P n ops N st ((i,S)::Ds) ⟨⟩ (upd e d v) w) ⟨⟩ (fun w=>xOp P e ⟨some d,op,ty,pos,af,none⟩ w):=by
 simp only [mixE,mixR,okDst,wantE,hd,decide_true,true_and,if_true,putE,xOp]
theorem mixE_run (i d:Nat)(need:List Nat)(op:Op)(ty:TypeId)(pos:String)(af:Array Edge)(t:Tag (P,n,ops,N,((.run i need,⟨some d,op,ty,pos,af,none⟩)::st:List (MStep × Oper))))(hd:d<n) :
  mixE P n ops N ((.run i need,⟨some d,op,ty,pos,af,none⟩)::st) Ds t e w=onRes P (fun v w'=>(w'=w∨askR Ds need w')∧mixE P n ops N st Ds ⟨⟩ (upd e d v) w') ⟨⟩ (xOp P e ⟨some d,op,ty,pos,af,none⟩ w):=by
 simp only [mixE,mixR,okDst,wantE,hd,decide_true,true_and,if_true,putE,xOp]
theorem mixE_run' (i:Nat)(need:List Nat)(op:Op)(ty:TypeId)(pos:String)(af:Array Edge)(t:Tag (P,n,ops,N,((.run i need,⟨none,op,ty,pos,af,none⟩)::st:List (MStep × Oper)))) :
  mixE P n ops N ((.run i need,⟨none,op,ty,pos,af,none⟩)::st) Ds t e w=onRes P (fun _ w'=>(w'=w∨askR Ds need w')∧mixE P n ops N st Ds ⟨⟩ e w') ⟨⟩ (xOp P e ⟨none,op,ty,pos,af,none⟩ w):=by
 simp only [mixE,mixR,okDst,wantE,true_and,if_true,putE,xOp]
theorem mixE_pure2 (l0:List Oper)(i:Nat)(d:Option Tmp)(op:Op)(ty:TypeId)(pos:String)(af:Array Edge)(j:Nat)(want:Bool)(t:Tag (P,n,l0.toArray,N,((.pure i,⟨d,op,ty,pos,af,some (j,want)⟩)::st:List (MStep × Oper))))(hd:okDst n d=true) :
  mixE P n l0.toArray N ((.pure i,⟨d,op,ty,pos,af,some (j,want)⟩)::st) Ds t e w =
   guardE (onPure (fun v=>mixE P n l0.toArray N st Ds ⟨⟩ (putE e d v) w) ⟨⟩ (fun w=>xOp P e ⟨d,op,ty,pos,af,some (j,want)⟩ w))
    (mixE P n l0.toArray N st Ds ⟨⟩ (putE e d undef) w) ⟨⟩ (wantL l0 e j want):=by
 simp only [mixE,mixR,hd,true_and,guardE,wantE_list,xOp]
theorem mixE_take2 (l0:List Oper)(i:Nat)(d:Option Tmp)(op:Op)(ty:TypeId)(pos:String)(af:Array Edge)(j:Nat)(want:Bool)(t:Tag (P,n,l0.toArray,N,((.take i,⟨d,op,ty,pos,af,some (j,want)⟩)::st:List (MStep × Oper))))(hd:okDst n d=true) :
  mixE P n l0.toArray N ((.take i,⟨d,op,ty,pos,af,some (j,want)⟩)::st) Ds t e w =
   guardE (onTake w (fun S v=>mixE P n l0.toArray N st ((i,S)::Ds) ⟨⟩ (putE e d v) w) ⟨⟩ (fun w=>xOp P e ⟨d,op,ty,pos,af,some (j,want)⟩ w))
    (mixE P n l0.toArray N st ((i,fun _=>True)::Ds) ⟨⟩ (putE e d undef) w) ⟨⟩ (wantL l0 e j want):=by
 simp only [mixE,mixR,hd,true_and,guardE,wantE_list,xOp]
theorem mixE_run2 (l0:List Oper)(i:Nat)(need:List Nat)(d:Option Tmp)(op:Op)(ty:TypeId)(pos:String)(af:Array Edge)(j:Nat)(want:Bool)(t:Tag (P,n,l0.toArray,N,((.run i need,⟨d,op,ty,pos,af,some (j,want)⟩)::st:List (MStep × Oper))))(hd:okDst n d=true) :
  mixE P n l0.toArray N ((.run i need,⟨d,op,ty,pos,af,some (j,want)⟩)::st) Ds t e w =
   guardE (onRes P (fun v w'=>(w'=w∨askR Ds need w')∧mixE P n l0.toArray N st Ds ⟨⟩ (putE e d v) w') ⟨⟩ (xOp P e ⟨d,op,ty,pos,af,some (j,want)⟩ w))
    (mixE P n l0.toArray N st Ds ⟨⟩ (putE e d undef) w) ⟨⟩ (wantL l0 e j want):=by
 simp only [mixE,mixR,hd,true_and,guardE,wantE_list,xOp]
end
def MStep.num:MStep→Nat
 | .pure i | .take i | .run i _=>i
theorem yif_pure {P:Program}{n:Nat}{ops:Array Oper}{S:World→Prop}{o:Oper}{v:Value}{e:Env}{a:Act}(hf:Fits n e a)(hw:wantE ops e o.guard=true)(h:∀ w,S w→(execOp (ev e) o).run P w=.ok (.value v) w):YieldsIf P ops S o v a :=
 .inl ⟨by rw [wantE_eq hf];exact hw,fun w hS=>by rw [hf.eval];exact h w hS⟩
theorem yif_off {P:Program}{n:Nat}{ops:Array Oper}{S:World→Prop}{o:Oper}{e:Env}{a:Act}(hf:Fits n e a)(hw:¬ wantE ops e o.guard=true):YieldsIf P ops S o undef a :=
 .inr ⟨by rw [wantE_eq hf];simpa using hw,rfl⟩
theorem mixAnyK {P:Program}{n g:Nat}{ops:Array Oper}{md:Region.Mode}{Q:Exit→Act→World→Prop}{fin:List Nat→Array Bool→Bool}{N:List (Nat × (World→Prop))→Env→World→Prop}(hsel:Region.noSelect ops=true)
  (hK:∀ Ds listed e a w,ClosedL md ops listed→fin (Ds.map (·.1)) listed=true→Fits n e a→N Ds e w→wpAnyD P md ops (noP Q) (askD md ops Ds) g listed a w):∀ (st:List (MStep × Oper)) (Ds:List (Nat × (World→Prop))) (listed:Array Bool) (e:Env) (a:Act) (w:World),ClosedL md ops listed →
  (∀ s∈st,ops[s.1.num]?=some s.2)→mixC md ops fin (st.map (·.1)) (Ds.map (·.1)) listed=true→Fits n e a→mixR P n ops N st Ds e w→wpAnyD P md ops (noP Q) (askD md ops Ds) (st.length+g) listed a w
 | [],Ds,listed,e,a,w,hcl,_,hB,hf,h=>by rw [List.length_nil,Nat.zero_add];exact hK Ds listed e a w hcl hB hf h
 | (.pure i,o)::st,Ds,listed,e,a,w,hcl,hst,hB,hf,h=>by
  have h0:ops[i]?=some o:=hst _ List.mem_cons_self;simp only [List.map_cons,mixC,Bool.and_eq_true] at hB;obtain ⟨⟨hr,hfr⟩,hB'⟩:=hB;have hr':i∈Region.ready md ops listed:=by simpa using hr
  have ih:=fun e' a'=>mixAnyK (P:=P) (n:=n) (Q:=Q) hsel hK st Ds (listed.setIfInBounds i true) e' a' w (hcl.set hr') (fun s hs=>hst s (List.mem_cons_of_mem _ hs)) hB'
  obtain ⟨hd,h⟩:=h;rw [List.length_cons,show st.length+1+g=st.length+g+1 by omega];have first:=fun v (hy:YieldsIf P ops (fun _=>True) o v a) hH=>wpAnyD_first (P:=P) (Q:=noP Q) (D:=askD md ops Ds) (D':=askD md ops Ds) (S:=fun _=>True) (v:=v) h0 (Region.noSelect_spec hsel) (fun _ _ _ h=>h) (fun w=>.inl rfl) (fun _ _ _ _ _ _=>trivial) (fun _ _ _ h=>h)
   (st.length+g) listed a w hcl (Region.free_spec h0 hfr) hr' hy trivial hH
  by_cases hw:wantE ops e o.guard=true
  ·rw [if_pos hw] at h;obtain ⟨v,h1,h2⟩:=h;exact first v (yif_pure hf hw (fun w _=>h1 w)) (ih _ _ (hf.put _ v hd) h2)
  ·rw [if_neg hw] at h;exact first undef (yif_off hf hw) (ih _ _ (hf.put _ undef hd) h)
 | (.take i,o)::st,Ds,listed,e,a,w,hcl,hst,hB,hf,h=>by
  have h0:ops[i]?=some o:=hst _ List.mem_cons_self;simp only [List.map_cons,mixC,Bool.and_eq_true] at hB;obtain ⟨⟨hr,hfr⟩,hB'⟩:=hB;have hr':i∈Region.ready md ops listed:=by simpa using hr
  have ih:=fun S e' a'=>mixAnyK (P:=P) (n:=n) (Q:=Q) hsel hK st ((i,S)::Ds) (listed.setIfInBounds i true) e' a' w (hcl.set hr') (fun s hs=>hst s (List.mem_cons_of_mem _ hs)) hB'
  obtain ⟨hd,h⟩:=h;rw [List.length_cons,show st.length+1+g=st.length+g+1 by omega];have first:=fun S v (hS:S w) (hy:YieldsIf P ops S o v a) hH=>wpAnyD_first (P:=P) (Q:=noP Q) (D:=askD md ops Ds) (D':=askD md ops ((i,S)::Ds)) (S:=S) (v:=v) h0 (Region.noSelect_spec hsel) (fun _ _ _ h=>h) (fun w=>.inl rfl)
   (fun j hju w w' hSw hD=>by
    rcases hD with rfl|hD
    ·exact hSw
    ·rcases hD (i,S) List.mem_cons_self with h|h
     ·exact absurd h hju
     ·exact h)
   (fun j w w' hD=>by
    rcases hD with hD|hD
    ·exact .inl hD
    ·exact .inr fun p hp=>hD p (List.mem_cons_of_mem _ hp))
   (st.length+g) listed a w hcl (Region.free_spec h0 hfr) hr' hy hS hH
  by_cases hw:wantE ops e o.guard=true
  ·rw [if_pos hw] at h;obtain ⟨S,v,hS,h1,h2⟩:=h;exact first S v hS (yif_pure hf hw h1) (ih S _ _ (hf.put _ v hd) h2)
  ·rw [if_neg hw] at h;exact first (fun _=>True) undef trivial (yif_off hf hw) (ih _ _ _ (hf.put _ undef hd) h)
 | (.run j need,o)::st,Ds,listed,e,a,w,hcl,hst,hB,hf,h=>by
  have h0:ops[j]?=some o:=hst _ List.mem_cons_self;simp only [List.map_cons,mixC,Bool.and_eq_true,decide_eq_true_eq] at hB;obtain ⟨⟨hr,hneed⟩,hB'⟩:=hB;have hr':j∈Region.ready md ops listed:=by rw [hr];simp
  rw [List.length_cons,show st.length+1+g=st.length+g+1 by omega];refine ⟨fun h=>by (rw [h] at hr;cases hr),fun i hi=>?_⟩;have hik:i=j:=by rw [hr] at hi;simpa using hi
  subst hik;have ih:=fun e' a' w'=>mixAnyK (P:=P) (n:=n) (Q:=Q) hsel hK st Ds (listed.setIfInBounds i true) e' a' w' (hcl.set hr') (fun s hs=>hst s (List.mem_cons_of_mem _ hs)) hB'
  obtain ⟨hd,h⟩:=h;unfold wpOp;simp only [h0];rw [wantE_eq hf];split
  ·rename_i hw;rw [if_pos hw] at h;refine .inl ?_;unfold Oper.wp;rw [hf.eval];generalize (execOp (ev e) o).run P w=r at h;cases r with
   | halt x w'=>exact h.elim
   | ok x w' =>
    cases x with
    | value v=>exact ⟨askD_of Ds hneed h.1,ih _ _ _ (hf.put _ v hd) h.2⟩
    | skip=>exact ⟨askD_of Ds hneed h.1,ih _ _ _ (hf.put _ undef hd) h.2⟩
    | enter f args =>
     refine Calls.mono h ?_;rintro x w2 ⟨v,rfl,hv⟩;exact ⟨askD_of Ds hneed hv.1,ih _ _ _ (hf.put _ v hd) hv.2⟩
    | _=>exact h.elim
  ·rename_i hw;rw [if_neg hw] at h;exact ⟨.inl rfl,ih _ _ _ (hf.put _ undef hd) h⟩
theorem mixAny {P:Program}{n:Nat}{ops:Array Oper}{md:Region.Mode}{Q:Exit→Env→World→Prop}(hsel:Region.noSelect ops=true)(st:List (MStep × Oper))(Ds:List (Nat × (World→Prop)))(listed:Array Bool)(e:Env)(a:Act)(w:World)(hcl:ClosedL md ops listed)
  (hst:∀ s∈st,ops[s.1.num]?=some s.2) (hB:mixB md ops (st.map (·.1)) (Ds.map (·.1)) listed=true) (hf:Fits n e a) (h:mixR P n ops (endN (Q .normal)) st Ds e w):wpAnyD P md ops (noP (lift n Q)) (askD md ops Ds) st.length listed a w :=
 mixAnyK (P:=P) (n:=n) (md:=md) (Q:=lift n Q) (g:=0) (N:=endN (Q .normal)) (fin:=endB md ops) hsel (fun Ds listed e a w _ hB hf h=>(show _∧_ from ⟨by simpa [endB] using hB,e,hf,h⟩)) st Ds listed e a w hcl hst hB hf h
theorem run_step {P:Program}{n g:Nat}{ops:Array Oper}{md:Region.Mode}{Q:Exit→Act→World→Prop}{N:List (Nat × (World→Prop))→Env→World→Prop}{j:Nat}{need:List Nat}{o:Oper}{st:List (MStep × Oper)}{Ds:List (Nat × (World→Prop))}{listed:Array Bool}{e:Env}{a:Act}{w:World}(h0:ops[j]?=some o)
  (hneed:((Ds.map (·.1)).all fun i=>(upB md ops i).contains j || need.contains i)=true) (hf:Fits n e a) (h:mixR P n ops N ((.run j need,o)::st) Ds e w)
  (ih:∀ e' a' w',Fits n e' a'→mixR P n ops N st Ds e' w'→wpAnyD P md ops (noP Q) (askD md ops Ds) g (listed.setIfInBounds j true) a' w') :
  wpOp P ops (noP Q) j (fun a' w'=>askD md ops Ds j w w'∧wpAnyD P md ops (noP Q) (askD md ops Ds) g (listed.setIfInBounds j true) a' w') a w:=by
 obtain ⟨hd,h⟩:=h;unfold wpOp;simp only [h0];rw [wantE_eq hf];split
 ·rename_i hw;rw [if_pos hw] at h;refine .inl ?_;unfold Oper.wp;rw [hf.eval];generalize (execOp (ev e) o).run P w=r at h;cases r with
  | halt x w'=>exact h.elim
  | ok x w' =>
   cases x with
   | value v=>exact ⟨askD_of Ds hneed h.1,ih _ _ _ (hf.put _ v hd) h.2⟩
   | skip=>exact ⟨askD_of Ds hneed h.1,ih _ _ _ (hf.put _ undef hd) h.2⟩
   | enter f args =>
    refine Calls.mono h ?_;rintro x w2 ⟨v,rfl,hv⟩;exact ⟨askD_of Ds hneed hv.1,ih _ _ _ (hf.put _ v hd) hv.2⟩
   | _=>exact h.elim
 ·rename_i hw;rw [if_neg hw] at h;exact ⟨.inl rfl,ih _ _ _ (hf.put _ undef hd) h⟩
def withOps (l:List Oper)(st:List MStep):List (MStep × Oper):=st.filterMap fun s=>(l[s.num]?).map fun o=>(s,o)
theorem withOps_num (l:List Oper)(st:List MStep):∀ s∈withOps l st,l.toArray[s.1.num]?=some s.2:=by
 intro s hs;unfold withOps at hs;obtain ⟨x,_,hx⟩:=List.mem_filterMap.1 hs;obtain ⟨o,ho,rfl⟩:=Option.map_eq_some_iff.1 hx;simpa using ho
theorem withOps_map (l:List Oper):∀ (st:List MStep),(st.all fun s=>decide (s.num<l.length))=true→(withOps l st).map (·.1)=st
 | [],_=>rfl
 | s::st,h=>by
  simp only [List.all_cons,Bool.and_eq_true,decide_eq_true_eq] at h;have h1:l[s.num]?=some l[s.num]:=by simp [h.1]
  have ih:=withOps_map l st h.2;unfold withOps at ih ⊢;rw [List.filterMap_cons,h1];simp only [Option.map_some,List.map_cons,ih]
theorem drawE_mix {P:Program}{n id:Nat}{l:List Oper}{Q:Exit→Env→World→Prop}{t:Tag (P,n,Code.region id l.toArray true,Q)}{e:Env}{w:World}(st:List MStep){s2:List (MStep × Oper)}(hm:P.follows .mixedOrders=true)
  (hB:(Region.noSelect l.toArray&&(st.all fun s=>decide (s.num<l.length))&&decide (st.length=l.length)&&mixB .any l.toArray st [] (Array.replicate l.toArray.size false))=true)
  (h2:withOps l st=s2) (h:mixE P n l.toArray (endN (Q .normal)) s2 [] ⟨⟩ e w.drew):wpE P n (.region id l.toArray true) Q t e w:=by
 subst h2;simp only [wpE,wpR];intro a hf;simp only [Bool.and_eq_true,decide_eq_true_eq] at hB;obtain ⟨⟨⟨hsel,hv⟩,hlen⟩,hmB⟩:=hB;have hmap:=withOps_map l st hv;have hl2:(withOps l st).length=l.toArray.size:=by rw [← List.length_map (f:=(·.1)),hmap,hlen];simp
 have H:=mixAny (P:=P) (n:=n) (md:=.any) (Q:=Q) hsel (withOps l st) [] (Array.replicate l.toArray.size false) e a w.drew ClosedL.none (withOps_num l st) (by rw [hmap];exact hmB) hf h;rw [hl2] at H;refine Code.wp_mono ?_ (wp_region_any hm (wpAny_of_D _ _ _ _ H));intro x a w h;cases x<;>first|exact h|exact h.elim
theorem drawE_alt {P:Program}{n id:Nat}{l:List Oper}{Q:Exit→Env→World→Prop}{t:Tag (P,n,Code.region id l.toArray true,Q)}{e:Env}{w:World}(st:List MStep)(i:Nat)(ni:List Nat)(s1:List MStep)(j:Nat)(nj:List Nat)(s2:List MStep){so t1 t2:List (MStep × Oper)}(hm:P.follows .mixedOrders=true)
  (hB:(Region.noSelect l.toArray&&(st.all fun s=>decide (s.num<l.length))&&((.run i ni::s1).all fun s=>decide (s.num<l.length))&&((.run j nj::s2).all fun s=>decide (s.num<l.length))&&decide (st.length+(s1.length+1)=l.length)&&decide (s1.length=s2.length) &&
   mixC .any l.toArray (altB .any l.toArray i ni s1 j nj s2) st [] (Array.replicate l.toArray.size false))=true)
  (h2:withOps l st=so) (h3:withOps l (.run i ni::s1)=t1) (h4:withOps l (.run j nj::s2)=t2) (h:mixE P n l.toArray (altN P n l.toArray (Q .normal) t1 t2) so [] ⟨⟩ e w.drew):wpE P n (.region id l.toArray true) Q t e w:=by
 subst h2;simp only [wpE,wpR];intro a hf;simp only [Bool.and_eq_true,decide_eq_true_eq] at hB;obtain ⟨⟨⟨⟨⟨⟨hsel,hv⟩,hv1⟩,hv2⟩,hlen⟩,hl12⟩,hmB⟩:=hB;have hmap:=withOps_map l st hv;have hmap1:=withOps_map l _ hv1;have hmap2:=withOps_map l _ hv2;have hn1:=withOps_num l (.run i ni::s1);have hn2:=withOps_num l (.run j nj::s2);rw [h3] at hmap1 hn1;rw [h4] at hmap2 hn2
 have branch:∀ (i:Nat) (ni:List Nat) (s1:List MStep) (t1:List (MStep × Oper)),t1.map (·.1)=.run i ni::s1→(∀ s∈t1,l.toArray[s.1.num]?=some s.2)→∀ Ds listed e a w,i∈Region.ready .any l.toArray listed→ClosedL .any l.toArray listed →
   ((Ds.map (·.1)).all fun k=>(upB .any l.toArray k).contains i || ni.contains k)=true→mixB .any l.toArray s1 (Ds.map (·.1)) (listed.setIfInBounds i true)=true→Fits n e a→mixR P n l.toArray (endN (Q .normal)) t1 Ds e w →
   wpOp P l.toArray (noP (lift n Q)) i (fun a' w'=>askD .any l.toArray Ds i w w'∧wpAnyD P .any l.toArray (noP (lift n Q)) (askD .any l.toArray Ds) s1.length (listed.setIfInBounds i true) a' w') a w:=by
  intro i ni s1 t1 hmap hn Ds listed e a w hr hcl hneed hB hf h;cases t1 with
  | nil=>cases hmap
  | cons x t1 =>
   obtain ⟨x1,o⟩:=x;simp only [List.map_cons,List.cons.injEq] at hmap;obtain ⟨rfl,rfl⟩:=hmap;have h0:l.toArray[i]?=some o:=hn _ List.mem_cons_self;refine run_step h0 hneed hf h (fun e' a' w' hf' h'=>?_);rw [List.length_map];exact mixAny hsel t1 Ds _ e' a' w' (hcl.set hr) (fun s hs=>hn s (List.mem_cons_of_mem _ hs)) hB hf' h'
 have H:=mixAnyK (P:=P) (n:=n) (g:=s1.length+1) (md:=.any) (Q:=lift n Q) (fin:=altB .any l.toArray i ni s1 j nj s2) (N:=altN P n l.toArray (Q .normal) t1 t2) hsel (fun Ds listed e a w hcl hB hf h=>by
  simp only [altB,Bool.and_eq_true,decide_eq_true_eq] at hB;obtain ⟨⟨⟨⟨hr,hn1'⟩,hn2'⟩,hb1⟩,hb2⟩:=hB;refine ⟨fun h=>by (rw [h] at hr;cases hr),fun k hk=>?_⟩;rw [hr] at hk
  rcases List.mem_cons.1 hk with rfl|hk
  ·exact branch k ni s1 t1 hmap1 hn1 Ds listed e a w (by rw [hr];simp) hcl hn1' hb1 hf h.1
  ·rw [List.mem_singleton] at hk;subst hk;rw [hl12];exact branch k nj s2 t2 hmap2 hn2 Ds listed e a w (by rw [hr];simp) hcl hn2' hb2 hf h.2) (withOps l st) [] (Array.replicate l.toArray.size false) e a w.drew ClosedL.none (withOps_num l st) (by rw [hmap];exact hmB) hf h
 have hl2:(withOps l st).length+(s1.length+1)=l.toArray.size:=by rw [← List.length_map (f:=(·.1)),hmap,hlen];simp
 rw [hl2] at H;refine Code.wp_mono ?_ (wp_region_any hm (wpAny_of_D _ _ _ _ H));intro x a w h;cases x<;>first|exact h|exact h.elim
attribute [go_sem] mixE_alt
attribute [congr] onPure_congr
attribute [go_sem] onPure_value mixE_nil mixE_pure mixE_take mixE_run mixE_run' mixE_pure2 mixE_take2 mixE_run2 askR
theorem wo:(∀ l:List Oper,withOps l []=[])∧(∀ (l:List Oper) (i:Nat) (st:List MStep),withOps l (.pure i::st)=match l[i]? with|some o=>(.pure i,o)::withOps l st|none=>withOps l st) ∧
  (∀ (l:List Oper) (i:Nat) (st:List MStep),withOps l (.take i::st)=match l[i]? with|some o=>(.take i,o)::withOps l st|none=>withOps l st) ∧
  (∀ (l:List Oper) (i:Nat) (n:List Nat) (st:List MStep),withOps l (.run i n::st)=match l[i]? with|some o=>(.run i n,o)::withOps l st|none=>withOps l st) ∧
  (∀ (a:Oper) (l:List Oper) (i:Nat),(a::l)[i+1]?=l[i]?)∧(∀ (a:Oper) (l:List Oper),(a::l)[0]?=some a):=by
 refine ⟨fun _=>rfl,fun l i st=>?_,fun l i st=>?_,fun l i n st=>?_,fun _ _ _=>List.getElem?_cons_succ,fun _ _=>List.getElem?_cons_zero⟩ <;>
  (simp only [withOps,List.filterMap_cons,MStep.num];cases l[i]? <;> rfl)
end
end Go.Proofs.YtaaihijkdhmcdaaGreatDoor
