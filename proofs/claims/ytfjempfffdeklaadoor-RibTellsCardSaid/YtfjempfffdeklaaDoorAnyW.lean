import Derived.Test.YtfjempfffdeklaaDoorLib
namespace Go
/-- Any world. -/
def AnyW (_ : World) : Prop := True
theorem AnyW.mk (w : World) : AnyW w := trivial
end Go
