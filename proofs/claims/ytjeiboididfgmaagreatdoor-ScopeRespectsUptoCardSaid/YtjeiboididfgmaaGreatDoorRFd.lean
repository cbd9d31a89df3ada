/- What closed calls yield, told by the evaluator. No condition. -/
import Derived.Test.YtjeiboididfgmaaGreatDoorRE
set_option maxRecDepth 100000
namespace Go.V
open Go
theorem told_f9:yields C0 3000 24 [.agg [.int 6,.int 0,.str ⟨#[]⟩,.str ⟨#[]⟩,.list [.str ⟨#[120]⟩],.list [.agg [.int 0,.int 0,.str ⟨#[120]⟩,.str ⟨#[]⟩,.nil0,.nil0,.nil0],.agg [.int 0,.int 0,.str ⟨#[120]⟩,.str ⟨#[]⟩,.nil0,.nil0,.nil0]],.nil0],.str ⟨#[120]⟩] (.tup [.int 1,.int 0])=true:=by kernel_rfl
theorem told_f10:yields C0 3000 26 [.str ⟨#[120,57]⟩,.list [.str ⟨#[120,57]⟩,.str ⟨#[120,48]⟩]] (.tup [.str ⟨#[120,49]⟩,.int 0])=true:=by kernel_rfl
theorem told_f11:yields C0 3000 26 [.str ⟨#[120]⟩,.list [.str ⟨#[120]⟩]] (.tup [.str ⟨#[120,48]⟩,.int 0])=true:=by kernel_rfl
end Go.V
